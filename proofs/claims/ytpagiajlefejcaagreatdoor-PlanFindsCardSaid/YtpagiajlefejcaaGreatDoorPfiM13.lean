/- The reference's chosen. The reference's Cols: its two inner functions: a column by its place among the job's columns; the first of some that is true. -/
import Derived.Test.YtpagiajlefejcaaGreatDoorPfiM6
import Derived.Test.YtpagiajlefejcaaGreatDoorPfiM8
import Derived.Test.YtpagiajlefejcaaGreatDoorPfiM4
import Derived.Test.YtpagiajlefejcaaGreatDoorPfiM7
import Derived.Test.YtpagiajlefejcaaGreatDoorPfiM2
import Derived.Test.YtpagiajlefejcaaGreatDoorPfiM5
import Derived.Deep.CutRange
import Derived.Deep.CutBlock
set_option linter.unusedSimpArgs false
set_option linter.unusedVariables false
set_option maxRecDepth 100000
set_option maxHeartbeats 16000000
namespace Go.Proofs.YtpagiajlefejcaaGreatDoor
open Go.Lib renaming hid → zx
open Go.Proofs.Tryz renaming prog → zy
open _root_.Nat renaming le_refl → zz, le_trans → zA, zero_le → zE
open Go.World renaming block_lt_of_cell? → zB, news_of_block → zJ
open _root_.List renaming mem_singleton → zD, length_append → zF, getElem?_eq_getElem → zI, getD_eq_getElem?_getD → zM
open aa renaming refl → zN
open ap renaming new → zO
open KW renaming of → zP
open Go.Value renaming string → zQ, slice → zR, pointer → zS, int → zW
open Go.Ending renaming returned → zT
open Go.Obj renaming cells → zU
open Go.IntKind renaming i64 → zX
section
open Go.RowKit Go.BigFrame
attribute [local go_sem] ag ab ae af KW.cell
def dG (R:Except Int (List (List Cl))) (e:Ending) (w':World):Prop:=match R with
 | .error x=>e=zT (.tuple #[zR none 0 0,zW zX x])
 | .ok out=>∃ B d,e=zT (.tuple #[zR B out.length d,zW zX 0])∧out.length≤d∧aW w' B out
theorem dG.mono {R:Except Int (List (List Cl))} {e:Ending} {w w':World} (h:dG R e w) (A:aa [] w w'):dG R e w':=by
 unfold dG at h ⊢;split at h
 ·exact h
 obtain ⟨B,d,I,D,J⟩:=h;exact ⟨B,d,I,D,J.keep A⟩
theorem iQ (l:List Cl) (n:Bs):aw l n=none↔n∉l.map (·.name):=by
 unfold aw;rw[List.findIdx?_eq_none_iff];constructor
 ·intro h B
  obtain ⟨c,A,rfl⟩:=List.mem_map.1 B;have:=h c A;simp at this
 intro h c A;rw[beq_eq_false_iff_ne];rintro rfl;exact h (List.mem_map.2 ⟨c,A,rfl⟩)
theorem kp {l:List Cl} {n:Bs} {k:Nat} (h:aw l n=some k):∃ D:k<l.length,l[k].name=n:=by
 obtain ⟨B,A,_⟩:=List.findIdx?_eq_some_iff_getElem.1 h;exact ⟨B,by simpa using A⟩
theorem lQ (j:Jb) (a:List Cl) (Ao:Option Addr) (co:Nat) (Ai:Option Addr) (ni ci:Nat) (Ac:Option Addr) (cc:Nat) (A:Option Addr) (c:Nat) (w:World) (hJ:fd w j Ao co Ac cc) (hA:Rd w [] 2 A a.length (ah a)) (hc:a.length≤c) (hl:a.length≤4294967296) :
  Calls zy 79 #[gG j Ao co Ai ni ci Ac cc,zR A a.length c] w fun e w'=>dG (bT j a) e w'∧aa [] w w':=by
 obtain ⟨ic,c7,cx,b3,cp⟩:=info_parts qa;have dv:=zx (fun (nm:Bs) W (q:aa [] w W)=>eO a nm A c W (hA.keep q) hl);have HA:=zx hA;have HJ:=zx hJ.cols;have c8:=hJ.cc;have c4:=hJ.lc;obtain ⟨R,hR⟩:∃ R,bT j a=R:=⟨_,rfl⟩
 rw[hR]
 have HR:Hid (R=if j.cols.length=0∨6<j.cols.length then .error 1 else match bK a [] j.cols [] with
  | .error e=> .error e
  | .ok out=> .ok [if j.code=4 then a else out]):=zx (by
  rw[←hR];unfold bT;split
  ·rfl
  cases bK a [] j.cols []<;>rfl)
 clear hR hJ hA;obtain ⟨at_,code,outs,ins,cols,op,⟨lc,lk,ln,lw⟩,⟨rc,rk,rn,a5⟩,I⟩:=j;simp only at HR HJ c8 c4;have bl:Hid (aa [] w (w.alloc (zU #[zW zX at_,zW zX code,zR Ao outs.length co,zR Ai ni ci,zR Ac cols.length cc,zQ (bs op),zQ (bs lc),zW zX lk,zW zX ln,zQ (bs lw),zQ (bs rc),zW zX rk,zW zX rn,zQ (bs a5),zW zX I] 59))):=zx ((zN _ _).alloc _);have bm:=zx (zO w 59 #[zW zX at_,zW zX code,zR Ao outs.length co,zR Ai ni ci,zR Ac cols.length cc,zQ (bs op),zQ (bs lc),zW zX lk,zW zX ln,zQ (bs lw),zQ (bs rc),zW zX rk,zW zX rn,zQ (bs a5),zW zX I]);show Calls _ _ #[.agg #[zW zX at_,zW zX code,zR Ao outs.length co,zR Ai ni ci,zR Ac cols.length cc,zQ (bs op),zQ (bs lc),zW zX lk,zW zX ln,zQ (bs lw),zQ (bs rc),zW zX rk,zW zX rn,zQ (bs a5),zW zX I],zR A a.length c] w _;have a3:=fun W=>jL (cols.length:Int) 1 6 W
 by_cases ba:(1:Int)≤(cols.length:Int)∧(cols.length:Int)≤6
 ·rw[decide_eq_true ba] at a3
  have b1:R=match bK a [] cols [] with
   | .error e=> .error e
   | .ok out=> .ok [if code=4 then a else out]:=by
   rw[HR.out,if_neg (by omega)]
  have bj:=zx b1;obtain ⟨b,o,rfl,_,hb,O⟩:=HJ.out.open' (by omega) (by decide);have dB:=zx O;have d5:0<cols.length:=by omega
  clear HR b1 O;go_enter Tryz.func79,Tryz.ntmps79
  go_wp2_with ((with_reducible refine (a3 _).mono ?_);rintro e w1 ⟨rfl,rfl⟩)
  obtain ⟨w2,b0⟩:∃ w2,(w.alloc (zU #[zW zX at_,zW zX code,zR Ao outs.length co,zR Ai ni ci,zR (some ⟨b,o,none⟩) cols.length cc,zQ (bs op),zQ (bs lc),zW zX lk,zW zX ln,zQ (bs lw),zQ (bs rc),zW zX rk,zW zX rn,zQ (bs a5),zW zX I] 59))=w2:=⟨_,rfl⟩
  rw[b0] at bl bm ⊢;obtain ⟨bx,b7⟩:∃ bx,w.heap.size=bx:=⟨_,rfl⟩
  rw[b7] at bm ⊢;clear b0 b7 a3;go_loopw [6,17] (fun u i wx=>∃ (m:Nat) (q:List Cl) (v:Value),v=u∧m≤cols.length∧q.length=m∧i=zW zX m∧wx.ownsRow w2.heap.size 109 2 v m (ah q)∧Hid (q.map (·.name)=cols.take m)∧Hid (bK a (cols.take m) (cols.drop m) q=bK a [] cols [])∧aa [] w2 wx) (fun _ i _=>cols.length-(intOf i).toNat)
  case atStart=>exact ⟨0,[],_,rfl,zE _,rfl,rfl,World.ownsRow_nil _ _ _ _,zx rfl,by rw[List.take_zero,List.drop_zero];exact rfl,zN _ _⟩
  obtain ⟨m,q,v,rfl,hm,hq,rfl,a2,ch,bA,hk⟩:=hrel;obtain ⟨Aq,cq,rfl,ds,cu⟩:=dH a2;subst hq;have HO:=zx a2;have HK:=zx hk;have B:=zx (bl.out.trans hk);have cf:=zx cu;have d3:q.length≤4294967296:=by omega
  clear a2 hk cu;by_cases bb:q.length<cols.length
  ·have d0:=B.out.cell_of (dB.out q.length _ (b9 cols q.length bb)) (by simp)
   have bd:=nd a cols q.length bb q;rw[bA.out] at bd;have a4:=zx bd;have c5:Hid (cols.take (q.length+1)=q.map (·.name)++[cols[q.length]]):=zx (by rw[List.take_succ_eq_append_getElem bb,ch.out]);have M:cols[q.length]∈cols.take q.length↔¬aw q cols[q.length]=none:=by rw[iQ,ch.out,Classical.not_not]
   have HF:=zx (dv.out cols[q.length]);have a6:=zx (fun W (z:aa [] wr W)=>eO q (cols[q.length]) Aq cq W (cf.out.keep z) d3);clear bd;generalize cols[q.length]=nm at *
   cases U:aw a nm with
   | none =>
    rw[U] at HF a4;have aA:Hid (R= .error 7):=zx (by rw[bj.out,a4.out]);clear U M;go_wp2_with fail
    refine (HF.out _ B.out).mono ?_;rintro e w5 ⟨rfl,J⟩;simp only[aI];go_wp2;go_ret2;exact ⟨by rw[aA.out];rfl,B.out.trans J⟩
   | some k =>
    rw[U] at HF a4;have bn:k<a.length:=(List.findIdx?_eq_some_iff_getElem.1 U).1;have a8:a[k].name=nm:=(kp U).2;have a9:a.getD k zC=a[k]:=by rw[zM,zI bn];rfl
    obtain ⟨b4,o4,c2,_,el,O⟩:=HA.out.open' (by omega) (by omega);subst c2;have d1:=O (k*2) _ (al a k bn).1;have d2:=O (k*2+1) _ (al a k bn).2;rw[←Nat.add_assoc] at d2;have ek:((k:Int)<0)=False:=eq_false (by omega);have d8:(0:Int)≤(k:Int):=by omega
    have d7:(k:Int)<(a.length:Int):=by omega
    cases D:aw q nm with
    | some k2 =>
     rw[D] at a6;have aA:Hid (R= .error 9):=zx (by rw[bj.out,a4.out];simp only;rw[if_pos (M.2 (by rw[D];simp))]);have d9:(0:Int)≤(k2:Int):=by omega
     clear U M O a9 d1 d2 D a8;go_wp2_with fail
     refine (HF.out _ B.out).mono ?_;rintro e w5 ⟨rfl,J⟩;simp only[aI];go_wp2_with fail
     refine (a6.out _ J).mono ?_;rintro e w6 ⟨rfl,a1⟩;simp only[aI];go_wp2;go_ret2;exact ⟨by rw[aA.out];rfl,B.out.trans (J.trans a1)⟩
    | none =>
     rw[D] at a6;have a7:¬nm∈cols.take q.length:=fun h=>M.1 h D
     have ct:Hid (bK a (cols.take (q.length+1)) (cols.drop (q.length+1)) (q++[a[k]])=bK a [] cols []):=zx (by rw[a4.out];simp only;rw[if_neg a7,a9]);have cv:Hid ((q++[a[k]]).map (·.name)=cols.take (q.length+1)):=zx (by rw[c5.out,List.map_append,List.map_singleton,a8]);have c9:=zx d1;have c1:=zx d2;clear U M O a9 d1 d2 D a8 a7;generalize a[k]=cl at *;go_wp2_with fail
     refine (HF.out _ B.out).mono ?_;rintro e w5 ⟨rfl,J⟩;simp only[aI];go_wp2_with fail
     refine (a6.out _ J).mono ?_;rintro e w6 ⟨rfl,a1⟩;simp only[aI];go_wp2_with fail
     refine (HF.out _ (B.out.trans (J.trans a1))).mono ?_;rintro e w7 ⟨rfl,bB⟩;simp only[aI];have a0:=J.trans (a1.trans bB);have e1:=(B.out.trans a0).cell_of c9.out (by simp);have e2:=(B.out.trans a0).cell_of c1.out (by simp);have cj:=zx (bh HO.out a0 (fun _ _=>by simp));have eb:w2.heap.size≤w7.heap.size:=zA HK.out.size a0.size;have d4:=zx (HK.out.trans a0);have b6:=zx (show q.length+1≤maxLen∧(q.length+1)*24≤140737488355328 by simp only[maxLen];omega);clear J a1 bB a0;go_wp2_with (at_builtin;refine wpList_append_lies _ rfl _ _ 22 rfl w2.heap.size 109 ic _ 2 24 Tryz.underlying22 c7 cx b3 cp rfl (by decide) _ q.length (ah q) rfl (cj.out.alloc _) ⟨w7.heap.size,0,none⟩ 1 1 [zQ (bs cl.name),zW zX cl.kind] rfl rfl (zJ (heap_alloc_new _ _)) (by simp[Value.oneCell']) (by decide) b6.out.1 b6.out.2 (by simp;omega) _ rfl ?_;intro gw d6 w8 Z ad cg c0)
     have dq:=zx ((d4.out.alloc (zU #[zQ (bs cl.name),zW zX cl.kind] 109)).grown ad (fun g hg=> .inr (cj.out.lt g hg).1));rw[←gr] at Z;have c3:=zx Z;clear Z ad cg c0;go_wp2;go_roundw
     case rel=>exact ⟨q.length+1,q++[cl],_,rfl,by omega,by simp,by go_num,c3.out,cv,ct,dq.out⟩
     case measure=>simp[intOf];omega
  have b5:q.length=cols.length:=by omega
  have bo:=bA.out;rw[b5,List.drop_length] at bo;have aA:Hid (R= .ok [if code=4 then a else q]):=zx (by rw[bj.out,←bo];rfl);clear bo bA b5;have y1:wr.cell? ⟨bx,1,none⟩=some (zW zX code):=HK.out.cell_of (bm.out.cell 1) (by simp);by_cases h4:code=4
  ·have t4:(code==4)=true:=by rw[h4];rfl
   have bq:Hid (R= .ok [a]):=zx (by rw[aA.out,if_pos h4]);have bk:=zx (cU (HA.out.keep B.out) hc 22);clear h4;go_wp2;go_ret2;exact ⟨by rw[bq.out];exact ⟨_,_,rfl,zz _,bk.out⟩,B.out.alloc _⟩
  have t4:(code==4)=false:=by rw[beq_eq_false_iff_ne];exact h4
  have bq:Hid (R= .ok [q]):=zx (by rw[aA.out,if_neg h4]);have bk:=zx (cU cf.out ds 22);clear h4;go_wp2;go_ret2;exact ⟨by rw[bq.out];exact ⟨_,_,rfl,zz _,bk.out⟩,B.out.alloc _⟩
 rw[decide_eq_false ba] at a3;have c6:Hid (R= .error 1):=zx (by rw[HR.out,if_pos (by omega)]);clear HR ba;go_enter Tryz.func79,Tryz.ntmps79
 go_wp2_with ((with_reducible refine (a3 _).mono ?_);rintro e w1 ⟨rfl,rfl⟩)
 go_ret2;exact ⟨by rw[c6.out];rfl,bl.out⟩
theorem rA (l:List Bool) (A:Option Addr) (c:Nat) (w:World) (hA:Rd w [] 1 A l.length (l.map Value.bool)) (hl:l.length≤4294967296) :
  Calls zy 76 #[zR A l.length c] w fun e w'=>e=zT (zW zX (aI (jp l)))∧aa [] w w':=by
 have HA:=zx hA;clear hA;go_enter Tryz.func76,Tryz.ntmps76
 go_wp2;go_loopw [7] (fun i wr=>∃ n:Nat,n≤l.length∧i=zW zX n∧Hid (∀ j (h:j<l.length),j<n→l[j]=false)∧Hid (aa [] w wr)) (fun i _=>l.length-(intOf i).toNat)
 case atStart=>exact ⟨0,zE _,rfl,zx (fun j _ h=>absurd h (by omega)),zx (zN _ _)⟩
 obtain ⟨n,hn,rfl,B,M⟩:=hrel;obtain ⟨z,rfl⟩:∃ z:World,z=wr:=⟨_,rfl⟩
 by_cases D:n<l.length
 ·have ad:(n:Int)<(l.length:Int):=by omega
  obtain ⟨g,o,rfl,_,hg,J⟩:=(HA.out.keep M.out).open' (by omega) (by omega);have d1:=J n (.bool l[n]) (by rw[List.getElem?_map,zI D];rfl);have U:Hid (∀ b,l[n]=b→if b then jp l=some n else ∀ j (h:j<l.length),j<n+1→l[j]=false):=zx (fun b hb=>by
   cases b with
   | true=>exact ve D (fun j h O=>B.out j h O) hb
   | false =>
    intro j h O;by_cases e:j<n
    ·exact B.out j h e
    obtain rfl:j=n:=by omega
    exact hb)
  clear J B;generalize l[n]=x at *
  cases x with
  | true =>
   have Z:Hid (jp l=some n):=zx (U.out true rfl);clear U;go_wp2;go_ret;exact ⟨by rw[Z.out];rfl,M.out⟩
  | false =>
   have Z:Hid (∀ j (h:j<l.length),j<n+1→l[j]=false):=zx (U.out false rfl);clear U;go_wp2;go_roundw
   case rel=>exact ⟨n+1,by omega,by go_num,Z,M⟩
   case measure=>simp[intOf];omega
 have I:Hid (jp l=none):=zx (tJ fun j O=>B.out j O (by omega));go_wp2;go_ret;exact ⟨by rw[I.out];rfl,M.out⟩
theorem lR (i:Nat) (cols:List Bs) (a:List Cl) (A Ac:Option Addr) (c cc bn I Z:Nat) (w:World) (J:Rd w [] 2 A a.length (ah a)) (hl:a.length≤4294967296) (D:Rd w [] 1 Ac cols.length (strs cols)) (a1:cols.length≤4294967296)
  (h0:w.cell? ⟨bn,0,none⟩=some (zW zX cols.length)) (h1:w.cell? ⟨I,0,none⟩=some (zR A a.length c)) (h2:w.cell? ⟨Z,4,none⟩=some (zR Ac cols.length cc)) :
  Calls zy 74 #[zW zX i,zS (some ⟨bn,0,none⟩),zS (some ⟨I,0,none⟩),zS (some ⟨Z,0,none⟩)] w fun e w'=>e=zT (zW zX (aI (dx cols a i)))∧aa [] w w':=by
 by_cases B:i<cols.length
 ·have M:Hid (aI (dx cols a i)=aI (aw a cols[i])):=zx (by unfold dx;rw[if_pos B,zM,zI B];rfl)
  obtain ⟨b,o,rfl,_,hb,h⟩:=D.open' (by omega) (by decide);have d0:=h i _ (b9 cols i B);have HF:=zx (fun W (q:aa [] w W)=>eO a (cols[i]) A c W (J.keep q) hl);have ad:(0:Int)≤(i:Int):=by omega
  have aA:(i:Int)<(cols.length:Int):=by omega
  have U:((cols.length:Int)≤(i:Int))=False:=eq_false (by omega);have a2:I<w.heap.size:=zB _ _ h1;have a0:Z<w.heap.size:=zB _ _ h2;generalize cols[i]=nm at *;generalize hv:aw a nm=V at *;generalize aI V=v at *;clear h J D hv;go_enter Tryz.func74,Tryz.ntmps74
  go_upto_region 3 with (fail)
  refine aB (by kernel_rfl) (by kernel_rfl) ?_;repeat (go_big_quiet_step (first|with_reducible exact zP HF.out _))
  refine wpQuiet_nil ?_;intro w3 O;go_wp2;go_ret;exact ⟨by rw[M.out];rfl,O⟩
 have M:Hid (dx cols a i=none):=zx (by unfold dx;rw[if_neg B]);have U:((cols.length:Int)≤(i:Int))=True:=eq_true (by omega);clear J D;go_enter Tryz.func74,Tryz.ntmps74
 go_wp2;go_ret;exact ⟨by rw[M.out];rfl,zN _ _⟩
theorem iq (a:Ar) (l:List Cl) (A:Option Addr) (c:Nat) (w:World) (hA:Rd w [] 2 A l.length (ah l)) (hl:l.length≤4294967296) (hw:a.val.word.length≤1000000000) :
  Calls zy 78 #[yv a,zR A l.length c] w fun e w'=>e=zT (zW zX (bL a l))∧aa [] w w':=by
 obtain ⟨nm,v⟩:=a;show Calls _ _ #[.agg #[zQ (bs nm),zW zX v.kind,zW zX v.num,zQ (bs v.word)],zR A l.length c] w _;have a3:aa [] w (w.alloc (zU #[zQ (bs nm),zW zX v.kind,zW zX v.num,zQ (bs v.word)] 57)):=(zN [] w).alloc _;have M:=zO w 57 #[zQ (bs nm),zW zX v.kind,zW zX v.num,zQ (bs v.word)];have aA:Hid (∀ W,Calls zy 9 #[.agg #[zW zX v.kind,zW zX v.num,zQ (bs v.word)]] W fun e w'=>e=zT (.bool (mf v))∧aa [] W w'):=zx (fun W=>gF v hw W);have HF:=zx (fun W (q:aa [] w W)=>eO l nm A c W (hA.keep q) hl);have HA:=zx hA;obtain ⟨R,hR⟩:∃ R,bL ⟨nm,v⟩ l=R:=⟨_,rfl⟩
 obtain ⟨Z,hZ⟩:∃ Z,decide (v=zV)=Z:=⟨_,rfl⟩
 rw[hR];have HR:=zx hR;have HZ:=zx hZ;clear hA hR hZ;go_enter Tryz.func78,Tryz.ntmps78
 go_upto_region 1 with (fail)
 obtain ⟨X,hX⟩:∃ X,w.heap.size=X:=⟨_,rfl⟩
 obtain ⟨y,hy⟩:∃ y,w.alloc (zU #[zQ (bs nm),zW zX v.kind,zW zX v.num,zQ (bs v.word)] 57)=y:=⟨_,rfl⟩
 rw[hX,hy] at M;rw[hy] at a3;rw[hX,hy];clear hy hX;have HK:=zx a3;have HB:=zx M;have x0:y.cell? ⟨X,0,none⟩=some (zQ (bs nm)):=M.cell 0;have x1:y.cell? ⟨X,1,none⟩=some (zW zX v.kind):=M.cell 1;have x2:y.cell? ⟨X,2,none⟩=some (zW zX v.num):=M.cell 2;have x3:y.cell? ⟨X,3,none⟩=some (zQ (bs v.word)):=M.cell 3;clear a3 M;go_cut [5] from 3 to 60 (fun u wx=>u= .bool Z∧Hid (aa [] y wx))
 case first =>
  obtain ⟨k,n,s⟩:=v;simp only at x1 x2 x3;by_cases h1:k=0
  ·have t1:(k==0)=true:=by rw[h1];rfl
   by_cases h2:n=0
   ·have t2:(n==0)=true:=by rw[h2];rfl
    cases s with
    | nil =>
     have HQ:Hid (Z=true):=zx (by rw[←HZ.out,h1,h2];rfl);clear h1 h2;go_wp2;go_meet;exact ⟨by rw[HQ.out],zx (zN _ _)⟩
    | cons b t =>
     have HQ:Hid (Z=false):=zx (by rw[←HZ.out];exact decide_eq_false (fun h=>by cases h));clear h1 h2;go_wp2;go_meet;exact ⟨by rw[HQ.out],zx (zN _ _)⟩
   have t2:(n==0)=false:=by rw[beq_eq_false_iff_ne];exact h2
   have HQ:Hid (Z=false):=zx (by rw[←HZ.out];exact decide_eq_false (fun h=>by cases h;exact h2 rfl));clear h1 h2;go_wp2;go_meet;exact ⟨by rw[HQ.out],zx (zN _ _)⟩
  have t1:(k==0)=false:=by rw[beq_eq_false_iff_ne];exact h1
  have HQ:Hid (Z=false):=zx (by rw[←HZ.out];exact decide_eq_false (fun h=>by cases h;exact h1 rfl));clear h1;go_wp2;go_meet;exact ⟨by rw[HQ.out],zx (zN _ _)⟩
 obtain ⟨rfl,a1⟩:=hcut;obtain ⟨y1,rfl⟩:∃ z:World,z=wc:=⟨_,rfl⟩
 clear x0 x1 x2 x3;have I:=zx (HK.out.trans a1.out);have ad:=zx (HB.out.keep a1.out (by simp));have HX:Hid (∀ W,aa [] y1 W→W.cell? ⟨X,0,none⟩=some (zQ (bs nm))∧W.cell? ⟨X,1,none⟩=some (zW zX v.kind)∧W.cell? ⟨X,2,none⟩=some (zW zX v.num)∧W.cell? ⟨X,3,none⟩=some (zQ (bs v.word))):=zx (fun W z=>⟨(ad.out.keep z (by simp)).cell 0,(ad.out.keep z (by simp)).cell 1,(ad.out.keep z (by simp)).cell 2,(ad.out.keep z (by simp)).cell 3⟩);have J:=zx (fun W (q:aa [] y1 W)=>HF.out W (I.out.trans q));have a2:=zx (fun W (q:aa [] y1 W)=>HA.out.keep (I.out.trans q));clear HF HA HB ad HK a1;obtain ⟨x0,x1,x2,x3⟩:=HX.out _ (zN _ _)
 cases nm with
 | nil =>
  have B:Hid (R=if mf v then v.kind else 0):=zx (by rw[←HR.out];unfold bL;rw[if_pos rfl]);clear HR
  cases hr:mf v with
  | false =>
   rw[hr] at aA B;clear hr;go_wp2_with ((with_reducible refine (aA.out _).mono ?_);rintro e w2 ⟨rfl,O⟩)
   go_ret;exact ⟨by rw[B.out];rfl,I.out.trans O⟩
  | true =>
   rw[hr] at aA B;clear hr;go_wp2_with ((with_reducible refine (aA.out _).mono ?_);rintro e w2 ⟨rfl,O⟩;obtain ⟨z0,z1,z2,z3⟩:=HX.out _ O)
   go_ret;exact ⟨by rw[B.out];rfl,I.out.trans O⟩
 | cons b t =>
  have D:R=match aw l (b::t) with|none=>0|some k=>if v=zV then (l.getD k zC).kind else 0:=by
   rw[←HR.out];unfold bL;rw[if_neg (by simp)];cases aw l (b::t)<;>rfl
  clear HR
  cases hz:Z with
  | false =>
   have B:Hid (R=0):=zx (by
    have hv:¬v=zV:=of_decide_eq_false (HZ.out.trans hz);rw[D];split
    ·rfl
    rw[if_neg hv])
   clear hz D;go_wp2;go_ret;exact ⟨by rw[B.out];rfl,I.out⟩
  | true =>
   have hv:v=zV:=of_decide_eq_true (HZ.out.trans hz);simp only[if_pos hv] at D;clear hz hv
   cases U:aw l (b::t) with
   | none =>
    rw[U] at J D;have B:Hid (R=0):=zx D;clear D U;simp only[aI] at J;go_wp2_with ((with_reducible refine (J.out _ (zN _ _)).mono ?_);rintro e w2 ⟨rfl,O⟩;obtain ⟨z0,z1,z2,z3⟩:=HX.out _ O)
    go_ret;exact ⟨by rw[B.out];rfl,I.out.trans O⟩
   | some k =>
    rw[U] at J D;have a7:k<l.length:=(List.findIdx?_eq_some_iff_getElem.1 U).1;have a5:l.getD k zC=l[k]:=by rw[zM,zI a7];rfl
    have a4:R=(l.getD k zC).kind:=D;rw[a5] at a4;have B:=zx a4;have HC:Hid (∃ g o,A=some ⟨g,o,none⟩∧∀ W,aa [] y1 W→W.cell? ⟨g,o+k*2+1,none⟩=some (zW zX l[k].kind)):=zx (by
     obtain ⟨g,o,a6,_,_,_⟩:=(a2.out _ (zN _ _)).open' (by omega) (by omega);refine ⟨g,o,a6,fun W q=>?_⟩;obtain ⟨g',o',a0,_,_,a9⟩:=(a2.out _ q).open' (by omega) (by omega);rw[a6] at a0;cases a0
     have d:=a9 (k*2+1) _ (al l k a7).2;rwa [←Nat.add_assoc] at d)
    have bd:(0:Int)≤(k:Int):=by omega
    have bb:(k:Int)<(l.length:Int):=by omega
    have bj:¬(k:Int)<0:=by omega
    generalize l[k]=cc at *;obtain ⟨g,o,rfl,a8⟩:=HC.out;have ba:=zx a8;clear HC a8 D a4 a5 U a2;simp only[aI] at J;go_wp2_with (first|((with_reducible refine (J.out _ (zN _ _)).mono ?_);rintro e w2 ⟨rfl,O⟩;obtain ⟨z0,z1,z2,z3⟩:=HX.out _ O)|((with_reducible refine (J.out _ O).mono ?_);rintro e w3 ⟨rfl,k3⟩;have d1:=ba.out _ (O.trans k3)))
    go_ret;exact ⟨by rw[B.out];rfl,I.out.trans (O.trans k3)⟩
def gy (la m n:Nat):Nat:=la+if n≤m then n else n-1
def dA (a b:List Cl) (m:Nat):List Cl:=a++b.take m++b.drop (m+1)
theorem sI {a b:List Cl} {m:Nat} (h:m<b.length):(dA a b m).length=gy a.length m b.length:=by
 unfold dA gy;rw[if_neg (by omega)];simp;omega
theorem vP {a b:List Cl} {m:Nat}:(dA a b m).take a.length=a:=by
 unfold dA;rw[List.append_assoc,List.take_left]
theorem uC {a b:List Cl} {m n:Nat} (D:m<b.length) (A:n<b.length) (B:n≠m):(dA a b m)[gy a.length m n]? = some b[n]:=by
 unfold dA gy;by_cases h:n≤m
 ·rw[if_pos h,List.append_assoc,List.getElem?_append_right (by omega),List.getElem?_append_left (by simp;omega),List.getElem?_take_of_lt (by omega),show a.length+n-a.length=n by omega,zI A]
 rw[if_neg h,List.append_assoc,List.getElem?_append_right (by omega),List.getElem?_append_right (by simp;omega),List.getElem?_drop,List.length_take,show m+1+(a.length+(n-1)-a.length-min m b.length)=n by omega,zI A]
theorem sJ (la m:Nat):gy la m (m+1)=gy la m m:=by unfold gy;rw[if_neg (by omega),if_pos (zz _)];omega
theorem sK {la m n:Nat} (h:n≠m):gy la m (n+1)=gy la m n+1:=by
 unfold gy;by_cases A:n≤m
 ·rw[if_pos A,if_pos (by omega)];omega
 rw[if_neg A,if_neg (by omega)];omega
theorem vQ {la m n k:Nat} (h:m<k) (A:n≤k):gy la m n≤gy la m k:=by
 unfold gy;rw[if_neg (show ¬k≤m by omega)];split<;>omega
theorem uD {l:List Cl} {p:Nat} {c:Cl} (h:l[p]? = some c) (B:¬aw (l.take p) c.name=none):fk l=true:=by
 unfold fk;rw[List.any_eq_true];refine ⟨p,List.mem_range.2 (List.getElem?_eq_some_iff.1 h).1,?_⟩;rw[zM,h]
 cases A:aw (l.take p) c.name with
 | none=>exact absurd A B
 | some k =>
  show (aw (l.take p) c.name).isSome=true;rw[A];rfl
theorem vR {l:List Cl} (h:(l.map (·.name)).Nodup):fk l=false:=by
 unfold fk;rw[List.any_eq_false];intro i D;have hi':=List.mem_range.1 D;have e:aw (l.take i) (l.getD i zC).name=none:=by
  rw[iQ];intro A;rw[zM,zI hi',Option.getD_some] at A;have hd:=List.drop_eq_getElem_cons hi';have B:=h;rw[←List.take_append_drop i l,hd,List.map_append,List.nodup_append] at B;exact B.2.2 _ A _ (by rw[List.map_cons];exact List.mem_cons_self ..) rfl
 rw[e];simp
theorem sL (w:World) (h:Nat) (e:TypeId) (size:Nat) (A:h≤w.heap.size):(w.alloc (zU #[] e)).ownsRow h e size (zR (some ⟨w.heap.size,0,none⟩) 0 0) 0 [] :=
 ⟨by simp,.inr ⟨w.heap.size,0,#[],rfl,A,heap_alloc_new _ _,zz _,zE _,by simp,by simp⟩⟩
theorem uE:∀ (l:List Cl),∀ x∈ah l,x.oneCell'=true
 | [],_,h=>by cases h
 | c::l,x,h=>by
  rw[show ah (c::l)=fG c++ah l from rfl,List.mem_append] at h;rcases h with h|h
  ·simp only[fG,List.mem_cons,List.mem_nil_iff,or_false] at h
   rcases h with rfl|rfl<;>rfl
  exact uE l x h
theorem qE (j:Jb) (a D:List Cl) (Ao:Option Addr) (co:Nat) (Ai:Option Addr) (ni ci:Nat) (Ac:Option Addr) (cc:Nat) (A:Option Addr) (c:Nat) (B:Option Addr) (d:Nat) (w:World) (hJ:fd w j Ao co Ac cc) (hA:Rd w [] 2 A a.length (ah a)) (hc:a.length≤c) (hl:a.length≤4294967) (hB:Rd w [] 2 B D.length (ah D)) (hd:D.length≤d) (f6:D.length≤4294967) (d5:(a.map (·.name)).Nodup) :
  Calls zy 81 #[gG j Ao co Ai ni ci Ac cc,zR A a.length c,zR B D.length d] w fun e w'=>dG (cy j a D) e w'∧aa [] w w':=by
 obtain ⟨ic,c6,b7,b3,b6⟩:=info_parts qa;have fn:=zx (fun (nm:Bs) W (q:aa [] w W)=>eO a nm A c W (hA.keep q) (by omega));have dv:=zx (fun (nm:Bs) W (q:aa [] w W)=>eO D nm B d W (hB.keep q) (by omega));have HA:=zx hA;have HB:=zx hB;have HJ:=zx hJ.cols;have el:=zx d5;obtain ⟨R,hR⟩:∃ R,cy j a D=R:=⟨_,rfl⟩
 rw[hR];have HR:Hid (cy j a D=R):=zx hR;clear hR hJ hA hB d5;obtain ⟨at_,code,outs,ins,cols,op,⟨lc,lk,ln,lw⟩,⟨rc,rk,rn,O⟩,I⟩:=j;simp only at HR HJ;have cj:Hid (aa [] w (w.alloc (zU #[zW zX at_,zW zX code,zR Ao outs.length co,zR Ai ni ci,zR Ac cols.length cc,zQ (bs op),zQ (bs lc),zW zX lk,zW zX ln,zQ (bs lw),zQ (bs rc),zW zX rk,zW zX rn,zQ (bs O),zW zX I] 59))):=zx ((zN _ _).alloc _);have dB:=zx (zO w 59 #[zW zX at_,zW zX code,zR Ao outs.length co,zR Ai ni ci,zR Ac cols.length cc,zQ (bs op),zQ (bs lc),zW zX lk,zW zX ln,zQ (bs lw),zQ (bs rc),zW zX rk,zW zX rn,zQ (bs O),zW zX I]);show Calls _ _ #[.agg #[zW zX at_,zW zX code,zR Ao outs.length co,zR Ai ni ci,zR Ac cols.length cc,zQ (bs op),zQ (bs lc),zW zX lk,zW zX ln,zQ (bs lw),zQ (bs rc),zW zX rk,zW zX rn,zQ (bs O),zW zX I],zR A a.length c,zR B D.length d] w _;by_cases h2:cols.length=2
 ·have t2:((cols.length:Int) != 2)=false:=by rw[h2];rfl
  obtain ⟨n0,n1,rfl⟩:∃ n0 n1,cols=[n0,n1]:=by
   match cols,h2 with
   | [x,y],_=>exact ⟨x,y,rfl⟩
  have a4:R=match aw a n0,aw D n1 with
   | some k,some m=>if (a.getD k zC).kind≠(D.getD m zC).kind then .error 13
    else if fk (dA a D m) then .error 9
    else if 6<(dA a D m).length then .error 4 else .ok [dA a D m]
   | _,_=> .error 7:=by
   rw[←HR.out];unfold cy;rw[if_neg (by simp)];show (match aw a n0,aw D n1 with|some k,some m=>_|_,_=>_)=_;cases aw a n0<;>cases aw D n1<;>rfl
  clear HR h2;obtain ⟨b,o,rfl,_,hb,ch⟩:=HJ.out.open' (by simp) (by decide);have d0:w.cell? ⟨b,o,none⟩=some (zQ (bs n0)):=ch 0 _ rfl;have d1:w.cell? ⟨b,o+1,none⟩=some (zQ (bs n1)):=ch 1 _ rfl;have HD:=zx (And.intro d0 d1);have e5:=zx (fn.out n0);have ep:=zx (dv.out n1);clear dv ch HJ d0 d1;generalize hX:aw a n0=X at *;generalize hY:aw D n1=Y at *;have HX:=zx hX;have HY:=zx hY;clear hX hY;have HK0':Hid (aa [] w (w.alloc (zU #[zW zX at_,zW zX code,zR Ao outs.length co,zR Ai ni ci,zR (some ⟨b,o,none⟩) 2 cc,zQ (bs op),zQ (bs lc),zW zX lk,zW zX ln,zQ (bs lw),zQ (bs rc),zW zX rk,zW zX rn,zQ (bs O),zW zX I] 59))):=cj;have HBX':Hid (ap (w.alloc (zU #[zW zX at_,zW zX code,zR Ao outs.length co,zR Ai ni ci,zR (some ⟨b,o,none⟩) 2 cc,zQ (bs op),zQ (bs lc),zW zX lk,zW zX ln,zQ (bs lw),zQ (bs rc),zW zX rk,zW zX rn,zQ (bs O),zW zX I] 59)) w.heap.size 59 #[zW zX at_,zW zX code,zR Ao outs.length co,zR Ai ni ci,zR (some ⟨b,o,none⟩) 2 cc,zQ (bs op),zQ (bs lc),zW zX lk,zW zX ln,zQ (bs lw),zQ (bs rc),zW zX rk,zW zX rn,zQ (bs O),zW zX I]):=dB;clear cj dB;show Calls _ _ #[.agg #[zW zX at_,zW zX code,zR Ao outs.length co,zR Ai ni ci,zR (some ⟨b,o,none⟩) 2 cc,zQ (bs op),zQ (bs lc),zW zX lk,zW zX ln,zQ (bs lw),zQ (bs rc),zW zX rk,zW zX rn,zQ (bs O),zW zX I],zR A a.length c,zR B D.length d] w _;go_enter Tryz.func81,Tryz.ntmps81
  go_upto_region 3 with (fail)
  obtain ⟨w2,cx⟩:∃ w2,(w.alloc (zU #[zW zX at_,zW zX code,zR Ao outs.length co,zR Ai ni ci,zR (some ⟨b,o,none⟩) 2 cc,zQ (bs op),zQ (bs lc),zW zX lk,zW zX ln,zQ (bs lw),zQ (bs rc),zW zX rk,zW zX rn,zQ (bs O),zW zX I] 59))=w2:=⟨_,rfl⟩
  rw[cx] at HK0' HBX' ⊢;obtain ⟨bx,c4⟩:∃ bx,w.heap.size=bx:=⟨_,rfl⟩
  rw[c4] at HBX' ⊢;clear cx c4;have x4:w2.cell? ⟨bx,4,none⟩=some (zR (some ⟨b,o,none⟩) 2 cc):=HBX'.out.cell 4;have y0:=HK0'.out.cell_of HD.out.1 (by simp);have y1:=HK0'.out.cell_of HD.out.2 (by simp);have d9:=HBX'.out.lt;have lb:b<w2.heap.size:=Nat.lt_of_lt_of_le hb HK0'.out.size;have G0:=zx (fun W (z:aa [] w2 W)=>e5.out W (HK0'.out.trans z));have G1:=zx (fun W (z:aa [] w2 W)=>ep.out W (HK0'.out.trans z));generalize hx:aI X=x at *;generalize hy:aI Y=y at *;have Hx:=zx hx;have Hy:=zx hy;clear hx hy;refine aB (by kernel_rfl) (by kernel_rfl) ?_;repeat (go_big_quiet_step (first|with_reducible exact zP G0.out _|with_reducible exact zP G1.out _))
  refine wpQuiet_nil ?_;intro w3 ff;have a3:=zx (HK0'.out.trans ff);clear x4 y0 y1 d9 lb G0 G1
  cases X with
  | none =>
   have a9:Hid (R= .error 7):=zx a4;have hx:x= -1:=Hx.out.symm;subst hx;clear a4;go_wp2;go_ret2;exact ⟨by rw[a9.out];rfl,a3.out⟩
  | some k =>
   have hx:x=(k:Int):=Hx.out.symm;subst hx;have d3:k<a.length:=(List.findIdx?_eq_some_iff_getElem.1 HX.out).1;have f2:((k:Int)<0)=False:=eq_false (by omega)
   cases Y with
   | none =>
    have a9:Hid (R= .error 7):=zx a4;have hy:y= -1:=Hy.out.symm;subst hy;clear a4;go_wp2;go_ret2;exact ⟨by rw[a9.out];rfl,a3.out⟩
   | some m =>
    have hy:y=(m:Int):=Hy.out.symm;subst hy;have bb:m<D.length:=(List.findIdx?_eq_some_iff_getElem.1 HY.out).1;have gi:((m:Int)<0)=False:=eq_false (by omega);have ga:a.getD k zC=a[k]:=by rw[zM,zI d3];rfl
    have gb:D.getD m zC=D[m]:=by rw[zM,zI bb];rfl
    have bn:R=if a[k].kind≠D[m].kind then .error 13
     else if fk (dA a D m) then .error 9
     else if 6<(dA a D m).length then .error 4 else .ok [dA a D m]:=by rw[←ga,←gb];exact a4
    clear a4 ga gb Hx Hy;obtain ⟨b4,o4,rfl,_,gm,bm⟩:=HA.out.open' (by omega) (by omega);obtain ⟨b5,o5,rfl,_,b1,a6⟩:=HB.out.open' (by omega) (by omega);have et:=zx bm;have c3:=zx a6;have ka:=a3.out.cell_of (bm (k*2+1) _ (al a k d3).2) (by simp);have kb:=a3.out.cell_of (a6 (m*2+1) _ (al D m bb).2) (by simp);rw[←Nat.add_assoc] at ka kb;have fv:(0:Int)≤(k:Int):=by omega
    have er:(k:Int)<(a.length:Int):=by omega
    have ft:(0:Int)≤(m:Int):=by omega
    have fz:(m:Int)<(D.length:Int):=by omega
    have fu:b4<w3.heap.size:=zB _ _ ka;have d8:b5<w3.heap.size:=zB _ _ kb;clear bm a6;by_cases a2:a[k].kind=D[m].kind
    ·have bq:Hid (R=if fk (dA a D m) then .error 9
      else if 6<(dA a D m).length then .error 4 else .ok [dA a D m]):=zx (by rw[bn,if_neg (by rw[a2];simp)])
     have tk:(a[k].kind != D[m].kind)=false:=by rw[a2];simp
     clear bn a2;generalize a[k].kind=ka' at *;generalize D[m].kind=kb' at *;go_upto_region 6 with (fail)
     refine aB (by kernel_rfl) (by kernel_rfl) ?_;repeat (go_big_quiet_step (fail))
     refine wpQuiet_nil ?_;intro Z ct;have bB:=zx (a3.out.trans ct);have HS:=zx (show ∀ j u,(ah a)[j]? = some u→(Z.alloc (zU #[] 109)).cell? (Addr.add ⟨b4,o4,none⟩ j)=some u from fun j u hu=>by rw[dU];exact (bB.out.alloc _).cell_of (et.out j u hu) (by simp));have a7:=zx (show 0+a.length≤maxLen∧(0+a.length)*24≤140737488355328 by simp only[maxLen];omega);have fS:0<a.length:=by omega
     clear ka kb tk fv er ft fz fu d8;go_wp2_with (at_builtin;refine wpList_append_lies _ rfl _ _ 22 rfl Z.heap.size 109 ic _ 2 24 Tryz.underlying22 c6 b7 b3 b6 rfl (by decide) _ 0 [] rfl (sL Z Z.heap.size _ 2 (zz _)) ⟨b4,o4,none⟩ a.length c (ah a) rfl (eX a) HS.out (uE a) fS a7.out.1 a7.out.2 (by simp) _ rfl ?_;intro gw d4 w8 bj M c7 d6)
     have ev:=zx ((bB.out.alloc (zU #[] 109)).grown M (fun g hg=> .inr (by
      rw[←Option.some.inj (show (some Z.heap.size:Option Nat)=some g from hg)];exact bB.out.size)))
     have eb:Hid (w8.ownsRow Z.heap.size 109 2 (zR (some ⟨gw,0,none⟩) a.length d4) a.length (ah a)):=zx (by simpa using bj);have e4:Hid (a=(dA a D m).take (gy a.length m 0)):=zx (by
      rw[show gy a.length m 0=a.length from by unfold gy;rw[if_pos (zE _)];rfl];exact vP.symm)
     have ds:Hid (aa [] Z w8):=zx (((zN [] Z).alloc (zU #[] 109)).grown M (fun g hg=> .inr (by
      rw[←Option.some.inj (show (some Z.heap.size:Option Nat)=some g from hg)];exact zz _)))
     clear bj M c7 d6 ev HS;go_loopw [10,51] (fun u i wx=>∃ (n:Nat) (q:List Cl) (v:Value),v=u∧n≤D.length∧i=zW zX n∧q.length≤a.length+n∧wx.ownsRow Z.heap.size 109 2 v q.length (ah q)∧Hid (q=(dA a D m).take (gy a.length m n))∧Hid ((q.map (·.name)).Nodup)∧aa [] Z wx) (fun _ i _=>D.length-(intOf i).toNat)
     case atStart=>exact ⟨0,a,_,rfl,zE _,rfl,zz _,eb.out,e4,el,ds.out⟩
     obtain ⟨n,q,v,rfl,hn,rfl,gj,bl,bd,cu,hk⟩:=hrel;obtain ⟨z,rfl⟩:∃ z:World,z=wr:=⟨_,rfl⟩
     obtain ⟨Aq,cq,rfl,e3,d2⟩:=dH bl;have HO:=zx bl;have HK:=zx hk;have a5:=zx (bB.out.trans hk);have c5:=zx d2;have fg:q.length≤4294967296:=by omega
     clear bl hk d2;by_cases cg:n<D.length
     ·have d0:=a5.out.cell_of (c3.out (n*2) _ (al D n cg).1) (by simp)
      have d1:=a5.out.cell_of (c3.out (n*2+1) _ (al D n cg).2) (by simp);rw[←Nat.add_assoc] at d1;have gl:(0:Int)≤(n:Int):=by omega
      have f1:(n:Int)<(D.length:Int):=by omega
      by_cases cf:n=m
      ·subst cf
       have bk:Hid (q=(dA a D n).take (gy a.length n (n+1))):=zx (by rw[sJ];exact bd.out);have U:=zx (fun x=>HK.out.alloc x);have f0:=zx (fun x=>bh HO.out ((zN [] z).alloc x) (fun _ _=>by simp));generalize D[n]=cl at *;obtain ⟨xn,xk⟩:=cl;simp only at d0 d1;clear bd;go_wp2;go_roundw
       case rel=>exact ⟨n+1,q,_,rfl,by omega,by go_num,by omega,f0.out _,bk,cu,U.out _⟩
       case measure=>simp[intOf];omega
      have f5:((n:Int)==(m:Int))=false:=by rw[beq_eq_false_iff_ne];omega
      have bA:=uC (a:=a) bb cg cf;have es:=zx bA;have gk:=zx (vQ (la:=a.length) bb hn);have cv:=iQ q D[n].name;have a1:Hid (¬aw q D[n].name=none→fk (dA a D m)=true):=zx (fun h=>uD bA (by rw[←bd.out];exact h));have bk:Hid (q++[D[n]]=(dA a D m).take (gy a.length m (n+1))):=zx (by rw[sK cf,bd.out,List.take_add_one,bA];rfl);have a0:Hid (aw q D[n].name=none→((q++[D[n]]).map (·.name)).Nodup):=zx (fun h=>by
       rw[List.map_append,List.map_singleton,List.nodup_append];refine ⟨cu.out,by simp,fun x hx y hy=>?_⟩;rw[zD] at hy;subst hy;intro e;subst e;exact cv.1 h hx)
      have ba:=zx (fun W (y:aa [] z W)=>eO q (D[n].name) Aq cq W (c5.out.keep y) fg);clear bA cv es;generalize D[n]=cl at *;obtain ⟨xn,xk⟩:=cl;simp only at d0 d1 a1 a0 ba;have en:=zx (zO z 109 #[zQ (bs xn),zW zX xk]);have U:Hid (aa [] z (z.alloc (zU #[zQ (bs xn),zW zX xk] 109))):=zx ((zN _ _).alloc _)
      cases J:aw q xn with
      | some k2 =>
       rw[J] at ba;have em:Hid (R= .error 9):=zx (by rw[bq.out,a1.out (by rw[J];simp)];rfl);have f3:(0:Int)≤(k2:Int):=by omega
       clear J a1 a0;go_wp2_with fail
       refine (ba.out _ U.out).mono ?_;rintro e w5 ⟨rfl,ad⟩;simp only[aI];go_wp2;go_ret2;exact ⟨by rw[em.out];rfl,a5.out.trans (U.out.trans ad)⟩
      | none =>
       rw[J] at ba;have dq:=zx (a0.out J);clear J a1 a0;go_wp2_with fail
       refine (ba.out _ U.out).mono ?_;rintro e w5 ⟨rfl,ad⟩;simp only[aI];have b1:=en.out.keep ad (by simp);have e0:=b1.cell 0;have e1:=b1.cell 1;have f7:Z.heap.size≤w5.heap.size:=zA HK.out.size (zA U.out.size ad.size);have c1:=zx (bh HO.out (U.out.trans ad) (fun _ _=>by simp));have fc:=zx (HK.out.trans (U.out.trans ad));have a7:=zx (show q.length+1≤maxLen∧(q.length+1)*24≤140737488355328 by simp only[maxLen];omega);clear ad b1;go_wp2_with (at_builtin;refine wpList_append_lies _ rfl _ _ 22 rfl Z.heap.size 109 ic _ 2 24 Tryz.underlying22 c6 b7 b3 b6 rfl (by decide) _ q.length (ah q) rfl (c1.out.alloc _) ⟨w5.heap.size,0,none⟩ 1 1 [zQ (bs xn),zW zX xk] rfl rfl (zJ (heap_alloc_new _ _)) (by simp[Value.oneCell']) (by decide) a7.out.1 a7.out.2 (by simp;omega) _ rfl ?_;intro ez c0 w9 a8 aA c8 c9)
       have e9:=zx ((fc.out.alloc (zU #[zQ (bs xn),zW zX xk] 109)).grown aA (fun g hg=> .inr (c1.out.lt g hg).1));have hown9':w9.ownsRow Z.heap.size 109 2 (zR (some ⟨ez,0,none⟩) (q.length+1) c0) (q++[(⟨xn,xk⟩:Cl)]).length (ah (q++[(⟨xn,xk⟩:Cl)])):=by rw[gr,zF];exact a8
       have ek:=zx hown9';clear a8 hown9' aA c8 c9;go_wp2;go_roundw
       case rel=>exact ⟨n+1,q++[⟨xn,xk⟩],_,rfl,by omega,by go_num,by simp;omega,ek.out,bk,dq,e9.out⟩
       case measure=>simp[intOf];omega
     have d7:n=D.length:=by omega
     have bo:q=dA a D m:=by
      have h:=bd.out;rw[d7,←sI bb,List.take_length] at h;exact h
     have c2:fk (dA a D m)=false:=vR (by rw[←bo];exact cu.out);have b0:R=if 6<q.length then .error 4 else .ok [q]:=by rw[bq.out,c2,←bo];rfl
     clear c2;by_cases h6:6<q.length
     ·have cp:Hid (R= .error 4):=zx (by rw[b0,if_pos h6])
      have t6:decide ((6:Int)<(q.length:Int))=true:=decide_eq_true (by omega);clear b0 bo h6;go_wp2;go_ret2;exact ⟨by rw[cp.out];rfl,a5.out⟩
     have cp:Hid (R= .ok [q]):=zx (by rw[b0,if_neg h6]);have t6:decide ((6:Int)<(q.length:Int))=false:=decide_eq_false (by omega);have fb:=zx (cU c5.out e3 22);clear b0 bo h6;go_wp2;go_ret2;exact ⟨by rw[cp.out];exact ⟨_,_,rfl,zz _,fb.out⟩,a5.out.alloc _⟩
    have bq:Hid (R= .error 13):=zx (by rw[bn,if_pos a2]);have tk:(a[k].kind != D[m].kind)=true:=by rw[bne_iff_ne];exact a2
    clear bn a2;generalize a[k].kind=ka' at *;generalize D[m].kind=kb' at *;go_upto_region 6 with (fail)
    refine aB (by kernel_rfl) (by kernel_rfl) ?_;repeat (go_big_quiet_step (fail))
    refine wpQuiet_nil ?_;intro Z ct;go_wp2;go_ret2;exact ⟨by rw[bq.out];rfl,a3.out.trans ct⟩
 have t2:((cols.length:Int) != 2)=true:=by rw[bne_iff_ne];omega
 have a9:Hid (R= .error 1):=zx (by
  rw[←HR.out];unfold cy;exact if_pos h2)
 clear HR h2;go_enter Tryz.func81,Tryz.ntmps81
 go_wp2;go_ret2;exact ⟨by rw[a9.out];rfl,cj.out⟩
end
section
open Go.RowKit Go.BigFrame
theorem cF (y:World) (A I:TypeId) (B D:Array Value):ap ((y.alloc (zU B A)).alloc (zU D I)).drew y.heap.size A B∧ap ((y.alloc (zU B A)).alloc (zU D I)).drew (y.heap.size+1) I D∧aa [] y ((y.alloc (zU B A)).alloc (zU D I)).drew:=by
 refine ⟨((zO y A B).alloc _).drew,ap.drew ?_,(((zN _ _).alloc _).alloc _).drew⟩;have h:=zO (y.alloc (zU B A)) I D;rwa [gh] at h
theorem pE (W:World) (t:TypeId) (l:List Bool) (cs:Array Value) (B:cs=(l.map Value.bool).toArray):Rd (W.alloc (zU cs t)) [] 1 (some ⟨W.heap.size,0,none⟩) l.length (l.map Value.bool):=by
 subst B;have h:=zO W t (l.map Value.bool).toArray;refine ⟨by simp,fun _=>⟨_,rfl,by simp,h.lt,fun j u A=>?_⟩⟩;rw[dU,Nat.zero_add,h.cell j];simpa using A
theorem yk:(Tryz.prog.info? 22).map (fun i=>(i.zero,i.size,i.bytes))=some (some (zR none 0 0),1,24):=by kernel_rfl
theorem vU {w:World} {g A:Nat} {v:Value} (h:ap w g 22 #[v]) (B:A≤g):w.ownsRow A 22 1 (zR (some ⟨g,0,none⟩) 1 1) 1 [v] :=
 ⟨by simp,.inr ⟨g,1,#[v],rfl,B,h,zz _,by decide,by simp,by simp⟩⟩
theorem nE {w:World} {g B I:Nat} {u v:Value} (h:w.ownsRow B 22 1 (zR (some ⟨g,0,none⟩) 2 I) 2 [u,v]):2≤I∧w.cell? ⟨g,0,none⟩=some u∧w.cell? ⟨g,1,none⟩=some v:=by
 obtain ⟨A,c,e,O,J⟩:=dH h;injection e with e1 e2 M;subst e1 M;obtain ⟨b,o,e,_,_,D⟩:=J.open' (by omega) (by decide);injection e with e;injection e with e1 e2;subst e1 e2;exact ⟨O,D 0 _ rfl,D 1 _ rfl⟩
theorem vV {W:World} {g:Nat} {t:TypeId} {cs:Array Value} (h:ap W g t cs) (l:List Cl) (A:cs=(ah l).toArray):Rd W [] 2 (some ⟨g,0,none⟩) l.length (ah l):=by
 subst A;refine ⟨eX l,fun _=>⟨_,rfl,by simp,h.lt,fun j u B=>?_⟩⟩;rw[dU,Nat.zero_add,h.cell j];simpa using B
theorem ed (W:World) (l:List Bool) (h:l.length≤4294967296):Calls zy 76 #[zR (some ⟨W.heap.size,0,none⟩) l.length l.length] (W.alloc (zU (l.map Value.bool).toArray 4)) fun e w'=>e=zT (zW zX (aI (jp l)))∧aa [] (W.alloc (zU (l.map Value.bool).toArray 4)) w' :=
 rA l _ _ _ (pE W 4 l _ rfl) h
theorem nF {W:World} {X:Nat} {t:TypeId} {v0 v1 v2 M v4 U O v7 v8 Z B J D A I:Value} (h:ap W X t #[v0,v1,v2,M,v4,U,O,v7,v8,Z,B,J,D,A,I]):W.cell? ⟨X,0,none⟩=some v0∧W.cell? ⟨X,1,none⟩=some v1∧W.cell? ⟨X,2,none⟩=some v2∧W.cell? ⟨X,3,none⟩=some M∧W.cell? ⟨X,4,none⟩=some v4∧W.cell? ⟨X,5,none⟩=some U∧W.cell? ⟨X,6,none⟩=some O∧W.cell? ⟨X,7,none⟩=some v7∧W.cell? ⟨X,8,none⟩=some v8∧W.cell? ⟨X,9,none⟩=some Z∧W.cell? ⟨X,10,none⟩=some B∧W.cell? ⟨X,11,none⟩=some J∧W.cell? ⟨X,12,none⟩=some D∧W.cell? ⟨X,13,none⟩=some A∧W.cell? ⟨X,14,none⟩=some I∧X<W.heap.size :=
 ⟨h.cell 0,h.cell 1,h.cell 2,h.cell 3,h.cell 4,h.cell 5,h.cell 6,h.cell 7,h.cell 8,h.cell 9,h.cell 10,h.cell 11,h.cell 12,h.cell 13,h.cell 14,h.lt⟩
theorem ou (w:World) (cs:Array Value) (t:TypeId):∃ y X,Hid (w.alloc (zU cs t)=y)∧Hid (w.heap.size=X)∧Hid (aa [] w y)∧Hid (ap y X t cs) :=
 ⟨_,_,zx rfl,zx rfl,zx ((zN [] w).alloc _),zx (zO w t cs)⟩
theorem gA {K:Int} {T M:Nat} (h:aF K=(T,M)) (W:World):Calls zy 30 #[zW zX K] W fun e B=>e=zT (.tuple #[zW zX T,zW zX M])∧W=B:=by
 have A:=lP K W;rw[h] at A;exact A
structure uT (w:World) (Ac:Option Addr) (cols:List Bs) (op lw rw':Bs) (a:List Cl) (b o:Nat) (A:Option Addr) (d:Nat):Prop where
 hE:gH w
 hJ:Rd w [] 1 Ac cols.length (strs cols)
 hcl:cols.length≤4294967296
 hop:op.length≤1000000
 hlw:lw.length≤1000000000
 hrw:rw'.length≤1000000000
 hd0:w.cell? ⟨b,o,none⟩=some (zR A a.length d)
 had:a.length≤d
 hA:Rd w [] 2 A a.length (ah a)
 hl:a.length≤4294967
end
section
open Go.RowKit Go.BigFrame
attribute [local go_sem] ag ab ae af KW.cell
theorem vW (at_ lk ln rk rn a7:Int) (cols:List Bs) (op lc lw rc ad:Bs) (Ao:Option Addr) (co:Nat) (Ai:Option Addr) (ni ci:Nat) (Ac:Option Addr) (cc:Nat) (a:List Cl) (b o ch:Nat) (A:Option Addr) (d:Nat) (w:World) (eb:uT w Ac cols op lw ad a b o A d) :
  Calls zy 32 #[.agg #[zW zX at_,zW zX 1,zR Ao 1 co,zR Ai ni ci,zR Ac cols.length cc,zQ (bs op),zQ (bs lc),zW zX lk,zW zX ln,zQ (bs lw),zQ (bs rc),zW zX rk,zW zX rn,zQ (bs ad),zW zX a7],zR (some ⟨b,o,none⟩) 1 ch] w fun e w'=>dG (iT (g9 op lc ⟨rc,⟨rk,rn,ad⟩⟩ a) [1,7,13] [a]) e w'∧aa [] w w':=by
 obtain ⟨hE,hJ,d4,ds,d7,c9,cu,c3,hA,hl⟩:=eb;obtain ⟨R,hR⟩:∃ R,iT (g9 op lc ⟨rc,⟨rk,rn,ad⟩⟩ a) [1,7,13] [a]=R:=⟨_,rfl⟩
 rw[hR];have cx:Hid (∀ W,aa [] w W→Calls zy 78 #[.agg #[zQ (bs rc),zW zX rk,zW zX rn,zQ (bs ad)],zR A a.length d] W fun e W'=>e=zT (zW zX (bL ⟨rc,⟨rk,rn,ad⟩⟩ a))∧aa [] W W'):=zx (fun W q=>iq ⟨rc,⟨rk,rn,ad⟩⟩ a A d W (hA.keep q) (by omega) c9);have bb:Hid (∀ W,aa [] w W→Calls zy 77 #[zQ (bs op),zQ ⟨#[61,32,60,62,32,60,32,60,61,32,62,32,62,61]⟩] W fun e W'=>e=zT (.bool (decide (op∈compares)))∧aa [] W W'):=zx (fun W q=>(eS op [61,32,60,62,32,60,32,60,61,32,62,32,62,61] compares (by decide) (by decide) ds (by decide) W (hE.quiet q)).mono fun e W' ⟨h1,h2⟩=>⟨h1,h2 ▸ zN _ _⟩);have cg:=zx (fun W (q:aa [] w W)=>eO a lc A d W (hA.keep q) (by omega));obtain ⟨b0,b3⟩:∃ b,(!decide (op∈compares)||decide (lc=[]))=b:=⟨_,rfl⟩
 obtain ⟨b1,b6⟩:∃ b,decide (aw a lc=none)=b:=⟨_,rfl⟩
 obtain ⟨b2,a1⟩:∃ b:Bool,(match aw a lc with
  | none=>false
  | some k=>bL ⟨rc,⟨rk,rn,ad⟩⟩ a != (a.getD k zC).kind)=b:=⟨_,rfl⟩
 have HR:Hid (R=iT [b0,b1,b2] [1,7,13] [a]):=zx (by
  rw[←hR,←b3,←b6,←a1];unfold g9;cases aw a lc<;>rfl)
 obtain ⟨C,hC⟩:∃ C,aw a lc=C:=⟨_,rfl⟩
 obtain ⟨KI,dv⟩:∃ K,bL ⟨rc,⟨rk,rn,ad⟩⟩ a=K:=⟨_,rfl⟩
 obtain ⟨BO,c4⟩:∃ B,decide (op∈compares)=B:=⟨_,rfl⟩
 rw[hC] at cg b6 a1;rw[dv] at cx a1;rw[c4] at bb b3;have HC:=zx hC;have cf:=zx b3;have I:=zx b6;have J:=zx a1;clear hR hC dv c4 b3 b6 a1;have HS:=zx (gA (show aF 1=(1,1) by decide));obtain ⟨y,X,HY,HX,HK,HB⟩:=ou w #[zW zX at_,zW zX 1,zR Ao 1 co,zR Ai ni ci,zR Ac cols.length cc,zQ (bs op),zQ (bs lc),zW zX lk,zW zX ln,zQ (bs lw),zQ (bs rc),zW zX rk,zW zX rn,zQ (bs ad),zW zX a7] 59;have HA:=zx hA;have HJ:=zx hJ;have d6:=zx cu;have b5:=zx hl;have HCL:=zx d4;have d9:=zx c3;clear hA hJ hE ds d7 c9 hl d4 c3;go_enter Tryz.func32,Tryz.ntmps32
 go_upto_region 4 with ((with_reducible refine (HS.out _).mono ?_);rintro e w1 ⟨rfl,rfl⟩)
 rw[HX.out,HY.out];clear HX HY HS;have x4:y.cell? ⟨X,4,none⟩=some (zR Ac cols.length cc):=HB.out.cell 4;have c1:=HK.out.cell_of cu (by simp);have lX:X<y.heap.size:=HB.out.lt;have lb:b<y.heap.size:=zB _ _ c1;clear cu;go_cut [8,9] from 38 to 48 (fun u v wx=>∃ ba bn:Nat,u=zS (some ⟨ba,0,none⟩)∧v=zS (some ⟨bn,0,none⟩)∧Hid (ap wx ba 22 #[zR A a.length d])∧Hid (ap wx bn 3 #[zW zX cols.length])∧Hid (aa [] y wx))
 case first =>
  have T1:=zx (cF y 22 3 #[zR A a.length d] #[zW zX cols.length]);have T2:=zx (cF y 3 22 #[zW zX cols.length] #[zR A a.length d]);go_region
  all_goals go_wp2
  all_goals go_meet
  ·exact ⟨_,_,rfl,rfl,zx T1.out.1,zx T1.out.2.1,zx T1.out.2.2⟩
  exact ⟨_,_,rfl,rfl,zx T2.out.2.1,zx T2.out.1,zx T2.out.2.2⟩
 obtain ⟨ba,bn,rfl,rfl,bq,d8,cq⟩:=hcut;obtain ⟨y1,rfl⟩:∃ z:World,z=wc:=⟨_,rfl⟩
 clear x4 c1 lX lb;have bA:=zx (HK.out.trans cq.out);have bj:=zx (HB.out.keep cq.out (by simp));clear HK HB cq;have x1:y1.cell? ⟨X,1,none⟩=some (zW zX 1):=bj.out.cell 1;have x6:y1.cell? ⟨X,6,none⟩=some (zQ (bs lc)):=bj.out.cell 6;have xd:=bA.out.cell_of d6.out (by simp);have xa:y1.cell? ⟨ba,0,none⟩=some (zR A a.length d):=bq.out.cell 0;have lX:X<y1.heap.size:=bj.out.lt;have c8:ba<y1.heap.size:=bq.out.lt;have bl:=zx (zO y1 22 #[zR A a.length d]);have cp:=zx ((zN [] y1).alloc (zU #[zR A a.length d] 22));go_upto_region 15 with (refine (cg.out _ (bA.out.trans cp.out)).mono ?_;rintro e w5 ⟨rfl,ct⟩)
 obtain ⟨bo,cj⟩:∃ z,y1.heap.size=z:=⟨_,rfl⟩
 rw[cj] at bl ⊢;have el:Hid (w.heap.size≤bo):=zx (cj ▸ bA.out.size);have dq:=zx (cp.out.trans ct);have bk:=zx (bl.out.keep ct (by simp));clear x1 x6 xd xa lX c8 bl cp ct cj;have bd:=zx (zO w5 34 #[zW zX 1,zW zX 7,zW zX 13]);have a4:=zx ((zN [] w5).alloc (zU #[zW zX 1,zW zX 7,zW zX 13] 34));go_upto_region 16 with (fail)
 obtain ⟨y2,bB⟩:∃ z,w5.alloc (zU #[zW zX 1,zW zX 7,zW zX 13] 34)=z:=⟨_,rfl⟩
 obtain ⟨be,d3⟩:∃ z,w5.heap.size=z:=⟨_,rfl⟩
 rw[bB,d3] at bd;rw[bB] at a4;rw[bB,d3];have a3:=zx (dq.out.trans a4.out);have em:be≠bo:=by
  have:=bk.out.lt;omega
 have a5:=zx (bA.out.trans a3.out);have c6:=zx (bj.out.keep a3.out (by simp));have bm:=zx (bq.out.keep a3.out (by simp));have b7:=zx (bk.out.keep a4.out (by simp));clear bB a3 a4 bk dq bj bq d8 cg;go_cut [15] from 63 to 93 (fun u wx=>u=zW zX (aI (jp [b0,b1,b2]))∧Hid (aa [] y2 wx))
 case first =>
  obtain ⟨-,-,-,-,-,x5,x6,-,-,-,et,e3,er,ez,-,lX⟩:=nF c6.out;have xa:y2.cell? ⟨ba,0,none⟩=some (zR A a.length d):=bm.out.cell 0;have c8:ba<y2.heap.size:=bm.out.lt;have G1:=zx (fun W (z:aa [] y2 W)=>bb.out W (a5.out.trans z));have G2:=zx (fun W (z:aa [] y2 W)=>cx.out W (a5.out.trans z));clear bb cx c6 bm b7 bd;have d5:(BO=false∧b0=true)∨(BO=true∧lc=[]∧b0=true)∨(BO=true∧∃ c0 t0,lc=c0::t0∧b0=false):=by
   have h:=cf.out
   cases BO with
   | false=>exact .inl ⟨rfl,h.symm.trans rfl⟩
   | true =>
    cases lc with
    | nil=>exact .inr (.inl ⟨rfl,rfl,h.symm.trans rfl⟩)
    | cons c0 t0=>exact .inr (.inr ⟨rfl,c0,t0,rfl,h.symm.trans (by rw[decide_eq_false (by simp)];rfl)⟩)
  clear cf HR;rcases d5 with ⟨rfl,rfl⟩|⟨rfl,rfl,rfl⟩|⟨rfl,c0,t0,rfl,rfl⟩
  ·cases C with
   | none =>
    obtain rfl:b1=true:=I.out.symm.trans rfl;obtain rfl:b2=false:=J.out.symm;clear I J;simp only[aI];refine cP 28 (by kernel_rfl) (by kernel_rfl) rfl ?_;simp only[List.take_succ_cons,List.take_zero,List.drop_succ_cons,List.drop_zero];repeat (go_big_quiet_step (first|with_reducible exact zP G1.out _|with_reducible exact zP G2.out _))
    refine wpQuiet_nil ?_;intro O D;have U:=zx (ed O [true,true,false] (by simp));have Z:=zx D;refine ⟨zR (some ⟨O.heap.size,0,none⟩) 3 3,O.alloc (zU #[.bool true,.bool true,.bool false] 4),by go_simp,D.alloc _,?_⟩;go_wp2_with (refine U.out.mono ?_;rintro e w9 ⟨rfl,M⟩)
    go_meet;exact ⟨rfl,zx ((Z.out.alloc _).trans M)⟩
   | some k =>
    obtain rfl:b1=false:=I.out.symm.trans rfl;have a2:k<a.length:=(List.findIdx?_eq_some_iff_getElem.1 HC.out).1;have aA:a.getD k zC=a[k]:=by rw[zM,zI a2];rfl
    have a1:(KI != a[k].kind)=b2:=by rw[←aA];exact J.out
    have hl:=b5.out;obtain ⟨b4,o4,a6,_,d2,a0⟩:=(HA.out.keep a5.out).open' (by omega) (by omega);subst a6;have ka:=a0 (k*2+1) _ (al a k a2).2;rw[←Nat.add_assoc] at ka;have d0:(0:Int)≤(k:Int):=by omega
    have c5:(k:Int)<(a.length:Int):=by omega
    have c7:((k:Int)<0)=False:=eq_false (by omega);have c2:max (k:Int) 0=(k:Int):=by omega
    have dB:b4<y2.heap.size:=zB _ _ ka;clear I J aA a0 hl;generalize a[k].kind=KA at *;simp only[aI];refine cP 28 (by kernel_rfl) (by kernel_rfl) rfl ?_;simp only[List.take_succ_cons,List.take_zero,List.drop_succ_cons,List.drop_zero];repeat (go_big_quiet_step (first|with_reducible exact zP G1.out _|with_reducible exact zP G2.out _))
    refine wpQuiet_nil ?_;intro O D;have U:=zx (ed O [true,false,b2] (by simp));have Z:=zx D;refine ⟨zR (some ⟨O.heap.size,0,none⟩) 3 3,O.alloc (zU #[.bool true,.bool false,.bool b2] 4),by go_simp,D.alloc _,?_⟩;go_wp2_with (refine U.out.mono ?_;rintro e w9 ⟨rfl,M⟩)
    go_meet;exact ⟨rfl,zx ((Z.out.alloc _).trans M)⟩
  ·cases C with
   | none =>
    obtain rfl:b1=true:=I.out.symm.trans rfl;obtain rfl:b2=false:=J.out.symm;clear I J;simp only[aI];refine cP 28 (by kernel_rfl) (by kernel_rfl) rfl ?_;simp only[List.take_succ_cons,List.take_zero,List.drop_succ_cons,List.drop_zero];repeat (go_big_quiet_step (first|with_reducible exact zP G1.out _|with_reducible exact zP G2.out _))
    refine wpQuiet_nil ?_;intro O D;have U:=zx (ed O [true,true,false] (by simp));have Z:=zx D;refine ⟨zR (some ⟨O.heap.size,0,none⟩) 3 3,O.alloc (zU #[.bool true,.bool true,.bool false] 4),by go_simp,D.alloc _,?_⟩;go_wp2_with (refine U.out.mono ?_;rintro e w9 ⟨rfl,M⟩)
    go_meet;exact ⟨rfl,zx ((Z.out.alloc _).trans M)⟩
   | some k =>
    obtain rfl:b1=false:=I.out.symm.trans rfl;have a2:k<a.length:=(List.findIdx?_eq_some_iff_getElem.1 HC.out).1;have aA:a.getD k zC=a[k]:=by rw[zM,zI a2];rfl
    have a1:(KI != a[k].kind)=b2:=by rw[←aA];exact J.out
    have hl:=b5.out;obtain ⟨b4,o4,a6,_,d2,a0⟩:=(HA.out.keep a5.out).open' (by omega) (by omega);subst a6;have ka:=a0 (k*2+1) _ (al a k a2).2;rw[←Nat.add_assoc] at ka;have d0:(0:Int)≤(k:Int):=by omega
    have c5:(k:Int)<(a.length:Int):=by omega
    have c7:((k:Int)<0)=False:=eq_false (by omega);have c2:max (k:Int) 0=(k:Int):=by omega
    have dB:b4<y2.heap.size:=zB _ _ ka;clear I J aA a0 hl;generalize a[k].kind=KA at *;simp only[aI];refine cP 28 (by kernel_rfl) (by kernel_rfl) rfl ?_;simp only[List.take_succ_cons,List.take_zero,List.drop_succ_cons,List.drop_zero];repeat (go_big_quiet_step (first|with_reducible exact zP G1.out _|with_reducible exact zP G2.out _))
    refine wpQuiet_nil ?_;intro O D;have U:=zx (ed O [true,false,b2] (by simp));have Z:=zx D;refine ⟨zR (some ⟨O.heap.size,0,none⟩) 3 3,O.alloc (zU #[.bool true,.bool false,.bool b2] 4),by go_simp,D.alloc _,?_⟩;go_wp2_with (refine U.out.mono ?_;rintro e w9 ⟨rfl,M⟩)
    go_meet;exact ⟨rfl,zx ((Z.out.alloc _).trans M)⟩
  cases C with
  | none =>
   obtain rfl:b1=true:=I.out.symm.trans rfl;obtain rfl:b2=false:=J.out.symm;clear I J;simp only[aI];refine cP 28 (by kernel_rfl) (by kernel_rfl) rfl ?_;simp only[List.take_succ_cons,List.take_zero,List.drop_succ_cons,List.drop_zero];repeat (go_big_quiet_step (first|with_reducible exact zP G1.out _|with_reducible exact zP G2.out _))
   refine wpQuiet_nil ?_;intro O D;have U:=zx (ed O [false,true,false] (by simp));have Z:=zx D;refine ⟨zR (some ⟨O.heap.size,0,none⟩) 3 3,O.alloc (zU #[.bool false,.bool true,.bool false] 4),by go_simp,D.alloc _,?_⟩;go_wp2_with (refine U.out.mono ?_;rintro e w9 ⟨rfl,M⟩)
   go_meet;exact ⟨rfl,zx ((Z.out.alloc _).trans M)⟩
  | some k =>
   obtain rfl:b1=false:=I.out.symm.trans rfl;have a2:k<a.length:=(List.findIdx?_eq_some_iff_getElem.1 HC.out).1;have aA:a.getD k zC=a[k]:=by rw[zM,zI a2];rfl
   have a1:(KI != a[k].kind)=b2:=by rw[←aA];exact J.out
   have hl:=b5.out;obtain ⟨b4,o4,a6,_,d2,a0⟩:=(HA.out.keep a5.out).open' (by omega) (by omega);subst a6;have ka:=a0 (k*2+1) _ (al a k a2).2;rw[←Nat.add_assoc] at ka;have d0:(0:Int)≤(k:Int):=by omega
   have c5:(k:Int)<(a.length:Int):=by omega
   have c7:((k:Int)<0)=False:=eq_false (by omega);have c2:max (k:Int) 0=(k:Int):=by omega
   have dB:b4<y2.heap.size:=zB _ _ ka;clear I J aA a0 hl;generalize a[k].kind=KA at *;simp only[aI];refine cP 28 (by kernel_rfl) (by kernel_rfl) rfl ?_;simp only[List.take_succ_cons,List.take_zero,List.drop_succ_cons,List.drop_zero];repeat (go_big_quiet_step (first|with_reducible exact zP G1.out _|with_reducible exact zP G2.out _))
   refine wpQuiet_nil ?_;intro O D;have U:=zx (ed O [false,false,b2] (by simp));have Z:=zx D;refine ⟨zR (some ⟨O.heap.size,0,none⟩) 3 3,O.alloc (zU #[.bool false,.bool false,.bool b2] 4),by go_simp,D.alloc _,?_⟩;go_wp2_with (refine U.out.mono ?_;rintro e w9 ⟨rfl,M⟩)
   go_meet;exact ⟨rfl,zx ((Z.out.alloc _).trans M)⟩
 obtain ⟨rfl,cv⟩:=hcut;obtain ⟨y3,rfl⟩:∃ z:World,z=wc:=⟨_,rfl⟩
 generalize aI C=oc;clear cf I J HC b5 HCL;have a9:=zx (a5.out.trans cv.out);have d1:=zx (b7.out.keep cv.out (by simp));have a8:=zx (bd.out.keep cv.out (by simp))
 cases hV:jp [b0,b1,b2] with
 | none =>
  have HF:Hid (R= .ok [a]):=zx (by rw[HR.out];unfold iT;rw[hV]);clear hV;simp only[aI];go_wp2;refine wp_loop_rounds 1 ?_;rw[rounds_succ];go_wp2;go_ret2
  exact ⟨by rw[HF.out];exact ⟨_,_,rfl,zz _,ej (n:=1) (HA.out.keep a9.out) d9.out (fun j hj=>by match j,hj with
   | 0,_=>exact d1.out.cell 0)⟩,a9.out⟩
 | some i =>
  have hi:i<3:=n6 hV;have HF:Hid (R= .error ([1,7,13].getD i 0)):=zx (by rw[HR.out];unfold iT;rw[hV]);clear hV;simp only[aI];have e0:(0:Int)≤(i:Int):=by omega
  have ep:(i:Int)<3:=by omega
  have en:((i:Int)<0)=False:=eq_false (by omega);go_wp2;refine wp_loop_rounds 1 ?_;rw[rounds_succ];go_upto_region 36 with (fail)
  have HE:Hid (∃ e,y3.cell? ⟨be,i,none⟩=some (zW zX e)∧R= .error e):=zx (by
   rw[HF.out]
   match i,hi with
   | 0,_=>exact ⟨_,a8.out.cell 0,rfl⟩
   | 1,_=>exact ⟨_,a8.out.cell 1,rfl⟩
   | 2,_=>exact ⟨_,a8.out.cell 2,rfl⟩)
  obtain ⟨ev,he,_⟩:=HE.out;have ek:Hid (R= .error ev):=zx (by
   obtain ⟨e2,h1,h2⟩:=HE.out;rw[he] at h1;cases h1
   exact h2)
  have es:be<y3.heap.size:=zB _ _ he;clear HE;refine aB (by kernel_rfl) (by kernel_rfl) ?_;repeat (go_big_quiet_step (fail))
  refine wpQuiet_nil ?_;intro w9 M;go_wp2;go_ret2;exact ⟨by rw[ek.out];rfl,a9.out.trans M⟩
theorem vX (at_ lk ln rk rn bb:Int) (cols:List Bs) (op lc lw rc ad:Bs) (Ao:Option Addr) (co:Nat) (Ai:Option Addr) (ni ci:Nat) (Ac:Option Addr) (cc:Nat) (a:List Cl) (b o ch:Nat) (A:Option Addr) (d:Nat) (w:World) (el:uT w Ac cols op lw ad a b o A d) :
  Calls zy 32 #[.agg #[zW zX at_,zW zX 2,zR Ao 1 co,zR Ai ni ci,zR Ac cols.length cc,zQ (bs op),zQ (bs lc),zW zX lk,zW zX ln,zQ (bs lw),zQ (bs rc),zW zX rk,zW zX rn,zQ (bs ad),zW zX bb],zR (some ⟨b,o,none⟩) 1 ch] w fun e w'=>dG (iT (lB op cols ⟨lc,⟨lk,ln,lw⟩⟩ ⟨rc,⟨rk,rn,ad⟩⟩ a) [1,7,13] [a]) e w'∧aa [] w w':=by
 obtain ⟨hE,hJ,d2,ds,c3,c7,cx,c4,hA,hl⟩:=el;obtain ⟨R,hR⟩:∃ R,iT (lB op cols ⟨lc,⟨lk,ln,lw⟩⟩ ⟨rc,⟨rk,rn,ad⟩⟩ a) [1,7,13] [a]=R:=⟨_,rfl⟩
 rw[hR];have c0:Hid (∀ W,aa [] w W→Calls zy 78 #[.agg #[zQ (bs rc),zW zX rk,zW zX rn,zQ (bs ad)],zR A a.length d] W fun e W'=>e=zT (zW zX (bL ⟨rc,⟨rk,rn,ad⟩⟩ a))∧aa [] W W'):=zx (fun W q=>iq ⟨rc,⟨rk,rn,ad⟩⟩ a A d W (hA.keep q) (by omega) c7);have cv:Hid (∀ W,aa [] w W→Calls zy 78 #[.agg #[zQ (bs lc),zW zX lk,zW zX ln,zQ (bs lw)],zR A a.length d] W fun e W'=>e=zT (zW zX (bL ⟨lc,⟨lk,ln,lw⟩⟩ a))∧aa [] W W'):=zx (fun W q=>iq ⟨lc,⟨lk,ln,lw⟩⟩ a A d W (hA.keep q) (by omega) c3);have bl:Hid (∀ W,aa [] w W→Calls zy 77 #[zQ (bs op),zQ ⟨#[43,32,45,32,42]⟩] W fun e W'=>e=zT (.bool (decide (op∈hI)))∧aa [] W W'):=zx (fun W q=>(eS op [43,32,45,32,42] hI (by decide) (by decide) ds (by decide) W (hE.quiet q)).mono fun e W' ⟨h1,h2⟩=>⟨h1,h2 ▸ zN _ _⟩);obtain ⟨b0,b6⟩:∃ b,(decide (cols.length≠1) || !decide (op∈hI))=b:=⟨_,rfl⟩
 obtain ⟨b1,cg⟩:∃ b,decide (dx cols a 0=none)=b:=⟨_,rfl⟩
 obtain ⟨b2,M⟩:∃ b:Bool,(match dx cols a 0 with
  | none=>false
  | some k=>(a.getD k zC).kind != 1||bL ⟨lc,⟨lk,ln,lw⟩⟩ a != 1||bL ⟨rc,⟨rk,rn,ad⟩⟩ a != 1)=b:=⟨_,rfl⟩
 have HR:Hid (R=iT [b0,b1,b2] [1,7,13] [a]):=zx (by
  rw[←hR,←b6,←cg,←M];unfold lB;cases dx cols a 0<;>rfl)
 obtain ⟨C0,ct⟩:∃ C,dx cols a 0=C:=⟨_,rfl⟩
 obtain ⟨KL,d0⟩:∃ K,bL ⟨lc,⟨lk,ln,lw⟩⟩ a=K:=⟨_,rfl⟩
 obtain ⟨KR,dq⟩:∃ K,bL ⟨rc,⟨rk,rn,ad⟩⟩ a=K:=⟨_,rfl⟩
 obtain ⟨BO,c5⟩:∃ B,decide (op∈hI)=B:=⟨_,rfl⟩
 rw[ct] at cg M;rw[d0] at cv M;rw[dq] at c0 M;rw[c5] at bl b6;have cq:=zx ct;have bB:=zx b6;have aA:=zx cg;have a1:=zx M;clear hR ct d0 dq c5 b6 cg M;have HS:=zx (gA (show aF 2=(1,1) by decide));obtain ⟨y,X,HY,HX,HK,HB⟩:=ou w #[zW zX at_,zW zX 2,zR Ao 1 co,zR Ai ni ci,zR Ac cols.length cc,zQ (bs op),zQ (bs lc),zW zX lk,zW zX ln,zQ (bs lw),zQ (bs rc),zW zX rk,zW zX rn,zQ (bs ad),zW zX bb] 59;have HA:=zx hA;have HJ:=zx hJ;have d4:=zx cx;have cf:=zx hl;have HCL:=zx d2;have d9:=zx c4;clear hA hJ hE ds c3 c7 hl d2 c4;go_enter Tryz.func32,Tryz.ntmps32
 go_upto_region 4 with ((with_reducible refine (HS.out _).mono ?_);rintro e w1 ⟨rfl,rfl⟩)
 rw[HX.out,HY.out];clear HX HY HS;have x4:y.cell? ⟨X,4,none⟩=some (zR Ac cols.length cc):=HB.out.cell 4;have c2:=HK.out.cell_of cx (by simp);have lX:X<y.heap.size:=HB.out.lt;have lb:b<y.heap.size:=zB _ _ c2;clear cx;go_cut [8,9] from 38 to 48 (fun u v wx=>∃ ba bn:Nat,u=zS (some ⟨ba,0,none⟩)∧v=zS (some ⟨bn,0,none⟩)∧Hid (ap wx ba 22 #[zR A a.length d])∧Hid (ap wx bn 3 #[zW zX cols.length])∧Hid (aa [] y wx))
 case first =>
  have T1:=zx (cF y 22 3 #[zR A a.length d] #[zW zX cols.length]);have T2:=zx (cF y 3 22 #[zW zX cols.length] #[zR A a.length d]);go_region
  all_goals go_wp2
  all_goals go_meet
  ·exact ⟨_,_,rfl,rfl,zx T1.out.1,zx T1.out.2.1,zx T1.out.2.2⟩
  exact ⟨_,_,rfl,rfl,zx T2.out.2.1,zx T2.out.1,zx T2.out.2.2⟩
 obtain ⟨ba,bn,rfl,rfl,bq,c8,cu⟩:=hcut;obtain ⟨y1,rfl⟩:∃ z:World,z=wc:=⟨_,rfl⟩
 clear x4 c2 lX lb;have cp:=zx (HK.out.trans cu.out);have b7:=zx (HB.out.keep cu.out (by simp));clear HK HB cu;have x1:y1.cell? ⟨X,1,none⟩=some (zW zX 2):=b7.out.cell 1;have xd:=cp.out.cell_of d4.out (by simp);have xa:y1.cell? ⟨ba,0,none⟩=some (zR A a.length d):=bq.out.cell 0;have lX:X<y1.heap.size:=b7.out.lt;have c6:ba<y1.heap.size:=bq.out.lt;have bk:=zx (zO y1 22 #[zR A a.length d]);have a5:=zx ((zN [] y1).alloc (zU #[zR A a.length d] 22));go_upto_block 0 with (fail)
 obtain ⟨y2,b5⟩:∃ z,y1.alloc (zU #[zR A a.length d] 22)=z:=⟨_,rfl⟩
 obtain ⟨bo,b3⟩:∃ z,y1.heap.size=z:=⟨_,rfl⟩
 rw[b5,b3] at bk;rw[b5] at a5;rw[b5,b3];have ep:Hid (w.heap.size≤bo):=zx (b3 ▸ cp.out.size);have a2:=zx (cp.out.trans a5.out);have a9:=zx (b7.out.keep a5.out (by simp));have a4:=zx (bq.out.keep a5.out (by simp));have a3:=zx (c8.out.keep a5.out (by simp));clear b5 b3 b7 bq c8 a5 x1 xd xa lX c6;have a7:Hid (∀ W,aa [] y2 W→Calls zy 74 #[zW zX 0,zS (some ⟨bn,0,none⟩),zS (some ⟨ba,0,none⟩),zS (some ⟨X,0,none⟩)] W fun e W'=>e=zT (zW zX (aI C0))∧aa [] W W'):=zx (fun W z=>by
  have h:=lR 0 cols a A Ac d cc bn ba X W (HA.out.keep (a2.out.trans z)) (by have:=cf.out;omega) (HJ.out.keep (a2.out.trans z)) HCL.out ((a3.out.keep z (by simp)).cell 0) ((a4.out.keep z (by simp)).cell 0) ((a9.out.keep z (by simp)).cell 4);rw[cq.out] at h;exact h)
 go_cut [12,14,15] from 54 to 212 (fun o e u wx=>o=zR (some ⟨bo,0,none⟩) 1 1∧∃ be:Nat,e=zR (some ⟨be,0,none⟩) 3 3∧u=zW zX (aI (jp [b0,b1,b2]))∧Hid (ap wx be 34 #[zW zX 1,zW zX 7,zW zX 13])∧Hid (aa [] y2 wx))
 case first =>
  have a0:=zx (zO y2 34 #[zW zX 1,zW zX 7,zW zX 13]);have O:=zx ((zN [] y2).alloc (zU #[zW zX 1,zW zX 7,zW zX 13] 34));have xc:y2.cell? ⟨X,1,none⟩=some (zW zX 2):=a9.out.cell 1;have d5:X<y2.heap.size:=a9.out.lt;go_upto_region 21 with (fail)
  obtain ⟨y4,bA⟩:∃ z,y2.alloc (zU #[zW zX 1,zW zX 7,zW zX 13] 34)=z:=⟨_,rfl⟩
  obtain ⟨be,c1⟩:∃ z,y2.heap.size=z:=⟨_,rfl⟩
  rw[bA,c1] at a0;rw[bA] at O;rw[bA,c1];clear bA c1 xc d5;obtain ⟨-,-,-,-,-,x5,x6,x7,x8,x9,e0,e9,et,e3,-,lX⟩:=nF (a9.out.keep O.out (by simp));have xa:y4.cell? ⟨ba,0,none⟩=some (zR A a.length d):=(a4.out.keep O.out (by simp)).cell 0;have xn:y4.cell? ⟨bn,0,none⟩=some (zW zX cols.length):=(a3.out.keep O.out (by simp)).cell 0;have c6:ba<y4.heap.size:=(a4.out.keep O.out (by simp)).lt;have e5:bn<y4.heap.size:=(a3.out.keep O.out (by simp)).lt;have G1:=zx (fun W (z:aa [] y4 W)=>bl.out W (a2.out.trans (O.out.trans z)));have G2:=zx (fun W (z:aa [] y4 W)=>c0.out W (a2.out.trans (O.out.trans z)));have G3:=zx (fun W (z:aa [] y4 W)=>cv.out W (a2.out.trans (O.out.trans z)));have GC:=zx (fun W (z:aa [] y4 W)=>a7.out W (O.out.trans z));have dv:=zx (a2.out.trans O.out);clear a7 bl c0 cv a9 a4 a3 bk HR;have d3:(((cols.length:Int) != 1)=true∧b0=true)∨(((cols.length:Int) != 1)=false∧(!BO)=b0):=by
   by_cases h:cols.length=1
   ·exact .inr ⟨by rw[h];rfl,by rw[←bB.out,decide_eq_false (by simpa using h)];rfl⟩
   exact .inl ⟨by rw[bne_iff_ne];omega,by rw[←bB.out,decide_eq_true h];rfl⟩
  clear bB;rcases d3 with ⟨tn,rfl⟩|⟨tn,tb⟩
  ·cases C0 with
   | none =>
    obtain rfl:b1=true:=aA.out.symm.trans rfl;obtain rfl:b2=false:=a1.out.symm;clear aA a1;simp only[aI] at GC;refine cP 39 (by kernel_rfl) (by kernel_rfl) rfl ?_;simp only[List.take_succ_cons,List.take_zero,List.drop_succ_cons,List.drop_zero];repeat (go_big_quiet_step (first|with_reducible exact zP G1.out _|with_reducible exact zP G2.out _|with_reducible exact zP G3.out _|with_reducible exact zP GC.out _))
    refine wpQuiet_nil ?_;intro U I;have Z:=zx (ed U [true,true,false] (by simp));have J:=zx I;refine ⟨zR (some ⟨U.heap.size,0,none⟩) 3 3,U.alloc (zU #[.bool true,.bool true,.bool false] 4),by go_simp,I.alloc _,?_⟩;go_wp2_with (refine Z.out.mono ?_;rintro e w9 ⟨rfl,D⟩)
    go_meet;exact ⟨rfl,_,rfl,rfl,zx (a0.out.keep ((J.out.alloc _).trans D) (by simp)),zx (O.out.trans ((J.out.alloc _).trans D))⟩
   | some k =>
    obtain rfl:b1=false:=aA.out.symm.trans rfl;have bm:k<a.length:=fA cq.out;have a6:a.getD k zC=a[k]:=by rw[zM,zI bm];rfl
    have M:(a[k].kind != 1||KL != 1||KR != 1)=b2:=by rw[←a6];exact a1.out
    have hl:=cf.out;obtain ⟨b4,o4,cj,_,en,a8⟩:=(HA.out.keep dv.out).open' (by omega) (by omega);subst cj;have ka:=a8 (k*2+1) _ (al a k bm).2;rw[←Nat.add_assoc] at ka;have ek:(0:Int)≤(k:Int):=by omega
    have d7:(k:Int)<(a.length:Int):=by omega
    have d8:((k:Int)<0)=False:=eq_false (by omega);have d6:max (k:Int) 0=(k:Int):=by omega
    have eb:b4<y4.heap.size:=zB _ _ ka;clear aA a1 a6 a8 hl;generalize a[k].kind=KA at *;simp only[aI] at GC;by_cases h1:KA=1
    ·subst h1
     by_cases h2:KL=1
     ·subst h2
      have tr:(KR != 1)=b2:=M;clear M;refine cP 39 (by kernel_rfl) (by kernel_rfl) rfl ?_;simp only[List.take_succ_cons,List.take_zero,List.drop_succ_cons,List.drop_zero];repeat (go_big_quiet_step (first|with_reducible exact zP G1.out _|with_reducible exact zP G2.out _|with_reducible exact zP G3.out _|with_reducible exact zP GC.out _))
      refine wpQuiet_nil ?_;intro U I;have Z:=zx (ed U [true,false,b2] (by simp));have J:=zx I;refine ⟨zR (some ⟨U.heap.size,0,none⟩) 3 3,U.alloc (zU #[.bool true,.bool false,.bool b2] 4),by go_simp,I.alloc _,?_⟩;go_wp2_with (refine Z.out.mono ?_;rintro e w9 ⟨rfl,D⟩)
      go_meet;exact ⟨rfl,_,rfl,rfl,zx (a0.out.keep ((J.out.alloc _).trans D) (by simp)),zx (O.out.trans ((J.out.alloc _).trans D))⟩
     have tl:(KL != 1)=true:=by rw[bne_iff_ne];exact h2
     obtain rfl:b2=true:=by rw[←M,tl];rfl
     clear M h2;refine cP 39 (by kernel_rfl) (by kernel_rfl) rfl ?_;simp only[List.take_succ_cons,List.take_zero,List.drop_succ_cons,List.drop_zero];repeat (go_big_quiet_step (first|with_reducible exact zP G1.out _|with_reducible exact zP G2.out _|with_reducible exact zP G3.out _|with_reducible exact zP GC.out _))
     refine wpQuiet_nil ?_;intro U I;have Z:=zx (ed U [true,false,true] (by simp));have J:=zx I;refine ⟨zR (some ⟨U.heap.size,0,none⟩) 3 3,U.alloc (zU #[.bool true,.bool false,.bool true] 4),by go_simp,I.alloc _,?_⟩;go_wp2_with (refine Z.out.mono ?_;rintro e w9 ⟨rfl,D⟩)
     go_meet;exact ⟨rfl,_,rfl,rfl,zx (a0.out.keep ((J.out.alloc _).trans D) (by simp)),zx (O.out.trans ((J.out.alloc _).trans D))⟩
    have tk:(KA != 1)=true:=by rw[bne_iff_ne];exact h1
    obtain rfl:b2=true:=by rw[←M,tk];rfl
    clear M h1;refine cP 39 (by kernel_rfl) (by kernel_rfl) rfl ?_;simp only[List.take_succ_cons,List.take_zero,List.drop_succ_cons,List.drop_zero];repeat (go_big_quiet_step (first|with_reducible exact zP G1.out _|with_reducible exact zP G2.out _|with_reducible exact zP G3.out _|with_reducible exact zP GC.out _))
    refine wpQuiet_nil ?_;intro U I;have Z:=zx (ed U [true,false,true] (by simp));have J:=zx I;refine ⟨zR (some ⟨U.heap.size,0,none⟩) 3 3,U.alloc (zU #[.bool true,.bool false,.bool true] 4),by go_simp,I.alloc _,?_⟩;go_wp2_with (refine Z.out.mono ?_;rintro e w9 ⟨rfl,D⟩)
    go_meet;exact ⟨rfl,_,rfl,rfl,zx (a0.out.keep ((J.out.alloc _).trans D) (by simp)),zx (O.out.trans ((J.out.alloc _).trans D))⟩
  cases C0 with
  | none =>
   obtain rfl:b1=true:=aA.out.symm.trans rfl;obtain rfl:b2=false:=a1.out.symm;clear aA a1;simp only[aI] at GC;refine cP 39 (by kernel_rfl) (by kernel_rfl) rfl ?_;simp only[List.take_succ_cons,List.take_zero,List.drop_succ_cons,List.drop_zero];repeat (go_big_quiet_step (first|with_reducible exact zP G1.out _|with_reducible exact zP G2.out _|with_reducible exact zP G3.out _|with_reducible exact zP GC.out _))
   refine wpQuiet_nil ?_;intro U I;have Z:=zx (ed U [b0,true,false] (by simp));have J:=zx I;refine ⟨zR (some ⟨U.heap.size,0,none⟩) 3 3,U.alloc (zU #[.bool b0,.bool true,.bool false] 4),by go_simp,I.alloc _,?_⟩;go_wp2_with (refine Z.out.mono ?_;rintro e w9 ⟨rfl,D⟩)
   go_meet;exact ⟨rfl,_,rfl,rfl,zx (a0.out.keep ((J.out.alloc _).trans D) (by simp)),zx (O.out.trans ((J.out.alloc _).trans D))⟩
  | some k =>
   obtain rfl:b1=false:=aA.out.symm.trans rfl;have bm:k<a.length:=fA cq.out;have a6:a.getD k zC=a[k]:=by rw[zM,zI bm];rfl
   have M:(a[k].kind != 1||KL != 1||KR != 1)=b2:=by rw[←a6];exact a1.out
   have hl:=cf.out;obtain ⟨b4,o4,cj,_,en,a8⟩:=(HA.out.keep dv.out).open' (by omega) (by omega);subst cj;have ka:=a8 (k*2+1) _ (al a k bm).2;rw[←Nat.add_assoc] at ka;have ek:(0:Int)≤(k:Int):=by omega
   have d7:(k:Int)<(a.length:Int):=by omega
   have d8:((k:Int)<0)=False:=eq_false (by omega);have d6:max (k:Int) 0=(k:Int):=by omega
   have eb:b4<y4.heap.size:=zB _ _ ka;clear aA a1 a6 a8 hl;generalize a[k].kind=KA at *;simp only[aI] at GC;by_cases h1:KA=1
   ·subst h1
    by_cases h2:KL=1
    ·subst h2
     have tr:(KR != 1)=b2:=M;clear M;refine cP 39 (by kernel_rfl) (by kernel_rfl) rfl ?_;simp only[List.take_succ_cons,List.take_zero,List.drop_succ_cons,List.drop_zero];repeat (go_big_quiet_step (first|with_reducible exact zP G1.out _|with_reducible exact zP G2.out _|with_reducible exact zP G3.out _|with_reducible exact zP GC.out _))
     refine wpQuiet_nil ?_;intro U I;have Z:=zx (ed U [b0,false,b2] (by simp));have J:=zx I;refine ⟨zR (some ⟨U.heap.size,0,none⟩) 3 3,U.alloc (zU #[.bool b0,.bool false,.bool b2] 4),by go_simp,I.alloc _,?_⟩;go_wp2_with (refine Z.out.mono ?_;rintro e w9 ⟨rfl,D⟩)
     go_meet;exact ⟨rfl,_,rfl,rfl,zx (a0.out.keep ((J.out.alloc _).trans D) (by simp)),zx (O.out.trans ((J.out.alloc _).trans D))⟩
    have tl:(KL != 1)=true:=by rw[bne_iff_ne];exact h2
    obtain rfl:b2=true:=by rw[←M,tl];rfl
    clear M h2;refine cP 39 (by kernel_rfl) (by kernel_rfl) rfl ?_;simp only[List.take_succ_cons,List.take_zero,List.drop_succ_cons,List.drop_zero];repeat (go_big_quiet_step (first|with_reducible exact zP G1.out _|with_reducible exact zP G2.out _|with_reducible exact zP G3.out _|with_reducible exact zP GC.out _))
    refine wpQuiet_nil ?_;intro U I;have Z:=zx (ed U [b0,false,true] (by simp));have J:=zx I;refine ⟨zR (some ⟨U.heap.size,0,none⟩) 3 3,U.alloc (zU #[.bool b0,.bool false,.bool true] 4),by go_simp,I.alloc _,?_⟩;go_wp2_with (refine Z.out.mono ?_;rintro e w9 ⟨rfl,D⟩)
    go_meet;exact ⟨rfl,_,rfl,rfl,zx (a0.out.keep ((J.out.alloc _).trans D) (by simp)),zx (O.out.trans ((J.out.alloc _).trans D))⟩
   have tk:(KA != 1)=true:=by rw[bne_iff_ne];exact h1
   obtain rfl:b2=true:=by rw[←M,tk];rfl
   clear M h1;refine cP 39 (by kernel_rfl) (by kernel_rfl) rfl ?_;simp only[List.take_succ_cons,List.take_zero,List.drop_succ_cons,List.drop_zero];repeat (go_big_quiet_step (first|with_reducible exact zP G1.out _|with_reducible exact zP G2.out _|with_reducible exact zP G3.out _|with_reducible exact zP GC.out _))
   refine wpQuiet_nil ?_;intro U I;have Z:=zx (ed U [b0,false,true] (by simp));have J:=zx I;refine ⟨zR (some ⟨U.heap.size,0,none⟩) 3 3,U.alloc (zU #[.bool b0,.bool false,.bool true] 4),by go_simp,I.alloc _,?_⟩;go_wp2_with (refine Z.out.mono ?_;rintro e w9 ⟨rfl,D⟩)
   go_meet;exact ⟨rfl,_,rfl,rfl,zx (a0.out.keep ((J.out.alloc _).trans D) (by simp)),zx (O.out.trans ((J.out.alloc _).trans D))⟩
 obtain ⟨rfl,be,rfl,rfl,c9,dB⟩:=hcut;obtain ⟨y3,rfl⟩:∃ z:World,z=wc:=⟨_,rfl⟩
 clear a7 bB aA a1 cf HCL;have bj:=zx (a2.out.trans dB.out);have d1:=zx (bk.out.keep dB.out (by simp));have bd:=zx c9.out
 cases hV:jp [b0,b1,b2] with
 | none =>
  have HF:Hid (R= .ok [a]):=zx (by rw[HR.out];unfold iT;rw[hV]);clear hV;simp only[aI];go_wp2;go_ret2
  exact ⟨by rw[HF.out];exact ⟨_,_,rfl,zz _,ej (n:=1) (HA.out.keep bj.out) d9.out (fun j hj=>by match j,hj with
   | 0,_=>exact d1.out.cell 0)⟩,bj.out⟩
 | some i =>
  have hi:i<3:=n6 hV;have HF:Hid (R= .error ([1,7,13].getD i 0)):=zx (by rw[HR.out];unfold iT;rw[hV]);clear hV;simp only[aI];have e4:(0:Int)≤(i:Int):=by omega
  have es:(i:Int)<3:=by omega
  have er:((i:Int)<0)=False:=eq_false (by omega);go_upto_region 36 with (fail)
  have HE:Hid (∃ e,y3.cell? ⟨be,i,none⟩=some (zW zX e)∧R= .error e):=zx (by
   rw[HF.out]
   match i,hi with
   | 0,_=>exact ⟨_,bd.out.cell 0,rfl⟩
   | 1,_=>exact ⟨_,bd.out.cell 1,rfl⟩
   | 2,_=>exact ⟨_,bd.out.cell 2,rfl⟩)
  obtain ⟨ev,he,_⟩:=HE.out;have em:Hid (R= .error ev):=zx (by
   obtain ⟨e2,h1,h2⟩:=HE.out;rw[he] at h1;cases h1
   exact h2)
  have ez:be<y3.heap.size:=zB _ _ he;clear HE;refine aB (by kernel_rfl) (by kernel_rfl) ?_;repeat (go_big_quiet_step (fail))
  refine wpQuiet_nil ?_;intro w9 D;go_wp2;go_ret2;exact ⟨by rw[em.out];rfl,bj.out.trans D⟩
theorem vY (at_ Z ln J rn h:Int) (cols:List Bs) (op lc D O B:Bs) (Ao:Option Addr) (co:Nat) (Ai:Option Addr) (ni ci:Nat) (M:Option Addr) (cc:Nat) (a:List Cl) (b o ch:Nat) (A:Option Addr) (d:Nat) (w:World) (bq:uT w M cols op D B a b o A d) (outs js:List Bs) (bb:fd w (⟨at_,3,outs,js,cols,op,⟨lc,⟨Z,ln,D⟩⟩,⟨O,⟨J,rn,B⟩⟩,h⟩:Jb) Ao co M cc) (ho:outs.length=1) :
  Calls zy 32 #[.agg #[zW zX at_,zW zX 3,zR Ao 1 co,zR Ai ni ci,zR M cols.length cc,zQ (bs op),zQ (bs lc),zW zX Z,zW zX ln,zQ (bs D),zQ (bs O),zW zX J,zW zX rn,zQ (bs B),zW zX h],zR (some ⟨b,o,none⟩) 1 ch] w fun e w'=>dG (bT (⟨at_,3,outs,js,cols,op,⟨lc,⟨Z,ln,D⟩⟩,⟨O,⟨J,rn,B⟩⟩,h⟩:Jb) a) e w'∧aa [] w w':=by
 obtain ⟨hE,hJ,bd,bo,bk,bm,a0,U,hA,hl⟩:=bq;obtain ⟨R,hR⟩:∃ R,(bT (⟨at_,3,outs,js,cols,op,⟨lc,⟨Z,ln,D⟩⟩,⟨O,⟨J,rn,B⟩⟩,h⟩:Jb) a:Except Int (List (List Cl)))=R:=⟨_,rfl⟩
 rw[hR];obtain ⟨x0,rfl⟩:∃ x,outs=[x]:=by
  match outs,ho with
  | [x],_=>exact ⟨x,rfl⟩
 have bl:Hid (∀ W,aa [] w W→Calls zy 79 #[.agg #[zW zX at_,zW zX 3,zR Ao 1 co,zR Ai ni ci,zR M cols.length cc,zQ (bs op),zQ (bs lc),zW zX Z,zW zX ln,zQ (bs D),zQ (bs O),zW zX J,zW zX rn,zQ (bs B),zW zX h],zR A a.length d] W fun e W'=>dG R e W'∧aa [] W W'):=zx (fun W q=>by
  rw[←hR];exact lQ (⟨at_,3,[x0],js,cols,op,⟨lc,⟨Z,ln,D⟩⟩,⟨O,⟨J,rn,B⟩⟩,h⟩:Jb) a Ao co Ai ni ci M cc A d W (bb.quiet q) (hA.keep q) U (by omega))
 clear hR ho bb;have HS:=zx (gA (show aF 3=(1,1) by decide));obtain ⟨y,X,HY,HX,HK,HB⟩:=ou w #[zW zX at_,zW zX 3,zR Ao 1 co,zR Ai ni ci,zR M cols.length cc,zQ (bs op),zQ (bs lc),zW zX Z,zW zX ln,zQ (bs D),zQ (bs O),zW zX J,zW zX rn,zQ (bs B),zW zX h] 59;have HA:=zx hA;have HJ:=zx hJ;have bj:=zx a0;have b5:=zx hl;have HCL:=zx bd;have b7:=zx U;clear hA hJ hE bo bk bm hl bd U;go_enter Tryz.func32,Tryz.ntmps32
 go_upto_region 4 with ((with_reducible refine (HS.out _).mono ?_);rintro e w1 ⟨rfl,rfl⟩)
 rw[HX.out,HY.out];clear HX HY HS;have x4:y.cell? ⟨X,4,none⟩=some (zR M cols.length cc):=HB.out.cell 4;have a1:=HK.out.cell_of a0 (by simp);have lX:X<y.heap.size:=HB.out.lt;have lb:b<y.heap.size:=zB _ _ a1;clear a0;go_cut [8,9] from 38 to 48 (fun u v wx=>∃ ba bn:Nat,u=zS (some ⟨ba,0,none⟩)∧v=zS (some ⟨bn,0,none⟩)∧Hid (ap wx ba 22 #[zR A a.length d])∧Hid (ap wx bn 3 #[zW zX cols.length])∧Hid (aa [] y wx))
 case first =>
  have T1:=zx (cF y 22 3 #[zR A a.length d] #[zW zX cols.length]);have T2:=zx (cF y 3 22 #[zW zX cols.length] #[zR A a.length d]);go_region
  all_goals go_wp2
  all_goals go_meet
  ·exact ⟨_,_,rfl,rfl,zx T1.out.1,zx T1.out.2.1,zx T1.out.2.2⟩
  exact ⟨_,_,rfl,rfl,zx T2.out.2.1,zx T2.out.1,zx T2.out.2.2⟩
 obtain ⟨ba,bn,rfl,rfl,a2,b3,ad⟩:=hcut;obtain ⟨y1,rfl⟩:∃ z:World,z=wc:=⟨_,rfl⟩
 clear x4 a1 lX lb;have I:=zx (HK.out.trans ad.out);have aA:=zx (HB.out.keep ad.out (by simp));clear HK HB ad;have x1:y1.cell? ⟨X,1,none⟩=some (zW zX 3):=aA.out.cell 1;have xd:=I.out.cell_of bj.out (by simp);have xa:y1.cell? ⟨ba,0,none⟩=some (zR A a.length d):=a2.out.cell 0;have lX:X<y1.heap.size:=aA.out.lt;have b1:ba<y1.heap.size:=a2.out.lt;have bA:=zx (zO y1 22 #[zR A a.length d]);have a6:=zx ((zN [] y1).alloc (zU #[zR A a.length d] 22));obtain ⟨x0,-,x2,x3,x4,x5,x6,x7,x8,x9,b0,b6,bB,b4,cf,-⟩:=nF aA.out;go_wp2_with fail
 refine (bl.out _ (I.out.trans a6.out)).mono ?_;rintro e w9 ⟨a3,a9⟩;have a7:=zx (I.out.trans (a6.out.trans a9));clear a9
 cases R with
 | error x =>
  obtain rfl:e=_:=a3;go_wp2;go_ret2;exact ⟨rfl,a7.out⟩
 | ok out =>
  obtain ⟨B9,d9,rfl,a5,a8⟩:=a3;have a4:=zx (And.intro a5 a8);clear a5 a8;go_wp2;go_ret2;exact ⟨⟨_,_,rfl,a4.out.1,a4.out.2⟩,a7.out⟩
theorem vZ (at_ Z ln J rn h:Int) (cols:List Bs) (op lc D O B:Bs) (Ao:Option Addr) (co:Nat) (Ai:Option Addr) (ni ci:Nat) (M:Option Addr) (cc:Nat) (a:List Cl) (b o ch:Nat) (A:Option Addr) (d:Nat) (w:World) (bq:uT w M cols op D B a b o A d) (outs js:List Bs) (bb:fd w (⟨at_,4,outs,js,cols,op,⟨lc,⟨Z,ln,D⟩⟩,⟨O,⟨J,rn,B⟩⟩,h⟩:Jb) Ao co M cc) (ho:outs.length=1) :
  Calls zy 32 #[.agg #[zW zX at_,zW zX 4,zR Ao 1 co,zR Ai ni ci,zR M cols.length cc,zQ (bs op),zQ (bs lc),zW zX Z,zW zX ln,zQ (bs D),zQ (bs O),zW zX J,zW zX rn,zQ (bs B),zW zX h],zR (some ⟨b,o,none⟩) 1 ch] w fun e w'=>dG (bT (⟨at_,4,outs,js,cols,op,⟨lc,⟨Z,ln,D⟩⟩,⟨O,⟨J,rn,B⟩⟩,h⟩:Jb) a) e w'∧aa [] w w':=by
 obtain ⟨hE,hJ,bd,bo,bk,bm,a0,U,hA,hl⟩:=bq;obtain ⟨R,hR⟩:∃ R,(bT (⟨at_,4,outs,js,cols,op,⟨lc,⟨Z,ln,D⟩⟩,⟨O,⟨J,rn,B⟩⟩,h⟩:Jb) a:Except Int (List (List Cl)))=R:=⟨_,rfl⟩
 rw[hR];obtain ⟨x0,rfl⟩:∃ x,outs=[x]:=by
  match outs,ho with
  | [x],_=>exact ⟨x,rfl⟩
 have bl:Hid (∀ W,aa [] w W→Calls zy 79 #[.agg #[zW zX at_,zW zX 4,zR Ao 1 co,zR Ai ni ci,zR M cols.length cc,zQ (bs op),zQ (bs lc),zW zX Z,zW zX ln,zQ (bs D),zQ (bs O),zW zX J,zW zX rn,zQ (bs B),zW zX h],zR A a.length d] W fun e W'=>dG R e W'∧aa [] W W'):=zx (fun W q=>by
  rw[←hR];exact lQ (⟨at_,4,[x0],js,cols,op,⟨lc,⟨Z,ln,D⟩⟩,⟨O,⟨J,rn,B⟩⟩,h⟩:Jb) a Ao co Ai ni ci M cc A d W (bb.quiet q) (hA.keep q) U (by omega))
 clear hR ho bb;have HS:=zx (gA (show aF 4=(1,1) by decide));obtain ⟨y,X,HY,HX,HK,HB⟩:=ou w #[zW zX at_,zW zX 4,zR Ao 1 co,zR Ai ni ci,zR M cols.length cc,zQ (bs op),zQ (bs lc),zW zX Z,zW zX ln,zQ (bs D),zQ (bs O),zW zX J,zW zX rn,zQ (bs B),zW zX h] 59;have HA:=zx hA;have HJ:=zx hJ;have bj:=zx a0;have b5:=zx hl;have HCL:=zx bd;have b7:=zx U;clear hA hJ hE bo bk bm hl bd U;go_enter Tryz.func32,Tryz.ntmps32
 go_upto_region 4 with ((with_reducible refine (HS.out _).mono ?_);rintro e w1 ⟨rfl,rfl⟩)
 rw[HX.out,HY.out];clear HX HY HS;have x4:y.cell? ⟨X,4,none⟩=some (zR M cols.length cc):=HB.out.cell 4;have a1:=HK.out.cell_of a0 (by simp);have lX:X<y.heap.size:=HB.out.lt;have lb:b<y.heap.size:=zB _ _ a1;clear a0;go_cut [8,9] from 38 to 48 (fun u v wx=>∃ ba bn:Nat,u=zS (some ⟨ba,0,none⟩)∧v=zS (some ⟨bn,0,none⟩)∧Hid (ap wx ba 22 #[zR A a.length d])∧Hid (ap wx bn 3 #[zW zX cols.length])∧Hid (aa [] y wx))
 case first =>
  have T1:=zx (cF y 22 3 #[zR A a.length d] #[zW zX cols.length]);have T2:=zx (cF y 3 22 #[zW zX cols.length] #[zR A a.length d]);go_region
  all_goals go_wp2
  all_goals go_meet
  ·exact ⟨_,_,rfl,rfl,zx T1.out.1,zx T1.out.2.1,zx T1.out.2.2⟩
  exact ⟨_,_,rfl,rfl,zx T2.out.2.1,zx T2.out.1,zx T2.out.2.2⟩
 obtain ⟨ba,bn,rfl,rfl,a2,b3,ad⟩:=hcut;obtain ⟨y1,rfl⟩:∃ z:World,z=wc:=⟨_,rfl⟩
 clear x4 a1 lX lb;have I:=zx (HK.out.trans ad.out);have aA:=zx (HB.out.keep ad.out (by simp));clear HK HB ad;have x1:y1.cell? ⟨X,1,none⟩=some (zW zX 4):=aA.out.cell 1;have xd:=I.out.cell_of bj.out (by simp);have xa:y1.cell? ⟨ba,0,none⟩=some (zR A a.length d):=a2.out.cell 0;have lX:X<y1.heap.size:=aA.out.lt;have b1:ba<y1.heap.size:=a2.out.lt;have bA:=zx (zO y1 22 #[zR A a.length d]);have a6:=zx ((zN [] y1).alloc (zU #[zR A a.length d] 22));obtain ⟨x0,-,x2,x3,x4,x5,x6,x7,x8,x9,b0,b6,bB,b4,cf,-⟩:=nF aA.out;go_wp2_with fail
 refine (bl.out _ (I.out.trans a6.out)).mono ?_;rintro e w9 ⟨a3,a9⟩;have a7:=zx (I.out.trans (a6.out.trans a9));clear a9
 cases R with
 | error x =>
  obtain rfl:e=_:=a3;go_wp2;go_ret2;exact ⟨rfl,a7.out⟩
 | ok out =>
  obtain ⟨B9,d9,rfl,a5,a8⟩:=a3;have a4:=zx (And.intro a5 a8);clear a5 a8;go_wp2;go_ret2;exact ⟨⟨_,_,rfl,a4.out.1,a4.out.2⟩,a7.out⟩
theorem we (at_ lk ln rk rn I:Int) (cols:List Bs) (op lc lw rc a2:Bs) (Ao:Option Addr) (co:Nat) (Ai:Option Addr) (ni ci:Nat) (Ac:Option Addr) (cc:Nat) (a:List Cl) (b o ch:Nat) (A:Option Addr) (d:Nat) (w:World) (c1:uT w Ac cols op lw a2 a b o A d) (h:List Cl) (B:Option Addr) (d2:Nat) (bm:w.cell? ⟨b,o+1,none⟩=some (zR B h.length d2)) (b6:h.length≤d2) (hB:Rd w [] 2 B h.length (ah h)) (cq:h.length≤4294967) :
  Calls zy 32 #[.agg #[zW zX at_,zW zX 5,zR Ao 1 co,zR Ai ni ci,zR Ac cols.length cc,zQ (bs op),zQ (bs lc),zW zX lk,zW zX ln,zQ (bs lw),zQ (bs rc),zW zX rk,zW zX rn,zQ (bs a2),zW zX I],zR (some ⟨b,o,none⟩) 2 ch] w fun e w'=>dG (iT [!decide (a=h)] [13] [a]) e w'∧aa [] w w':=by
 obtain ⟨hE,hJ,b1,cu,b5,cp,a8,bd,hA,hl⟩:=c1;obtain ⟨R,hR⟩:∃ R,(iT [!decide (a=h)] [13] [a]:Except Int (List (List Cl)))=R:=⟨_,rfl⟩
 rw[hR];have cg:=zx bm;have c0:Hid (∀ W,aa [] w W→Calls zy 80 #[zR A a.length d,zR B h.length d2] W fun e W'=>e=zT (.bool (decide (a=h)))∧aa [] W W'):=zx (fun W q=>sH a h A B d d2 W (hA.keep q) (hB.keep q) (by omega) (by omega));obtain ⟨U,a4⟩:∃ b,(!decide (a=h))=b:=⟨_,rfl⟩
 have HR:Hid (R=iT [U] [13] [a]):=zx (by rw[←hR,a4]);have b4:=zx a4;generalize decide (a=h)=DQ at *;clear hR a4 hB b6 cq;have HS:=zx (gA (show aF 5=(2,1) by decide));obtain ⟨y,X,HY,HX,HK,HB⟩:=ou w #[zW zX at_,zW zX 5,zR Ao 1 co,zR Ai ni ci,zR Ac cols.length cc,zQ (bs op),zQ (bs lc),zW zX lk,zW zX ln,zQ (bs lw),zQ (bs rc),zW zX rk,zW zX rn,zQ (bs a2),zW zX I] 59;have HA:=zx hA;have HJ:=zx hJ;have b3:=zx a8;have c3:=zx hl;have HCL:=zx b1;have cx:=zx bd;clear hA hJ hE cu b5 cp hl b1 bd;go_enter Tryz.func32,Tryz.ntmps32
 go_upto_region 4 with ((with_reducible refine (HS.out _).mono ?_);rintro e w1 ⟨rfl,rfl⟩)
 rw[HX.out,HY.out];clear HX HY HS;have x4:y.cell? ⟨X,4,none⟩=some (zR Ac cols.length cc):=HB.out.cell 4;have bb:=HK.out.cell_of a8 (by simp);have lX:X<y.heap.size:=HB.out.lt;have lb:b<y.heap.size:=zB _ _ bb;clear a8 bm;go_cut [8,9] from 38 to 48 (fun u v wx=>∃ ba bn:Nat,u=zS (some ⟨ba,0,none⟩)∧v=zS (some ⟨bn,0,none⟩)∧Hid (ap wx ba 22 #[zR A a.length d])∧Hid (ap wx bn 3 #[zW zX cols.length])∧Hid (aa [] y wx))
 case first =>
  have T1:=zx (cF y 22 3 #[zR A a.length d] #[zW zX cols.length]);have T2:=zx (cF y 3 22 #[zW zX cols.length] #[zR A a.length d]);go_region
  all_goals go_wp2
  all_goals go_meet
  ·exact ⟨_,_,rfl,rfl,zx T1.out.1,zx T1.out.2.1,zx T1.out.2.2⟩
  exact ⟨_,_,rfl,rfl,zx T2.out.2.1,zx T2.out.1,zx T2.out.2.2⟩
 obtain ⟨ba,bn,rfl,rfl,O,ct,a5⟩:=hcut;obtain ⟨y1,rfl⟩:∃ z:World,z=wc:=⟨_,rfl⟩
 clear x4 bb lX lb;have a3:=zx (HK.out.trans a5.out);have a7:=zx (HB.out.keep a5.out (by simp));clear HK HB a5;have x1:y1.cell? ⟨X,1,none⟩=some (zW zX 5):=a7.out.cell 1;have xd:=a3.out.cell_of b3.out (by simp);have cf:=a3.out.cell_of cg.out (by simp);have xa:y1.cell? ⟨ba,0,none⟩=some (zR A a.length d):=O.out.cell 0;have lX:X<y1.heap.size:=a7.out.lt;have cj:ba<y1.heap.size:=O.out.lt;have a0:=zx (zO y1 22 #[zR A a.length d]);have bk:=zx ((zN [] y1).alloc (zU #[zR A a.length d] 22));go_upto_region 27 with (fail)
 have ad:=zx (zO (y1.alloc (zU #[zR A a.length d] 22)) 34 #[zW zX 13]);have a6:=zx (bk.out.alloc (zU #[zW zX 13] 34));have J:=zx (a0.out.alloc (zU #[zW zX 13] 34));obtain ⟨y4,D⟩:∃ z,(y1.alloc (zU #[zR A a.length d] 22)).alloc (zU #[zW zX 13] 34)=z:=⟨_,rfl⟩
 obtain ⟨bo,Z⟩:∃ z,y1.heap.size=z:=⟨_,rfl⟩
 rw[gh] at ad;rw[D,Z] at ad;rw[D] at a6;rw[D,Z] at J;rw[D,Z];have bq:=zx (a3.out.trans a6.out);have b7:y4.cell? ⟨ba,0,none⟩=some (zR A a.length d):=(O.out.keep a6.out (by simp)).cell 0;generalize bo+1=be at *;clear D Z x1 xd cf xa lX cj a0 bk a7 O ct;have bA:=zx (fun w3:World=>rA [U] _ 1 _ (pE w3 4 [U] _ rfl) (by show 1≤_;omega));go_wp2_with fail
 refine (c0.out _ bq.out).mono ?_;rintro e w5 ⟨rfl,bl⟩;have a1:Hid (Calls zy 76 #[zR (some ⟨w5.heap.size,0,none⟩) 1 1] (w5.alloc (zU #[.bool U] 4)) fun e w'=>e=zT (zW zX (aI (jp [U])))∧aa [] (w5.alloc (zU #[.bool U] 4)) w'):=zx (bA.out w5);have tb:(!DQ)=U:=b4.out;clear bA;go_wp2_with fail
 refine a1.out.mono ?_;rintro e w6 ⟨rfl,bj⟩;have a9:=zx ((bl.alloc (zU #[.bool U] 4)).trans bj);have M:=zx (bq.out.trans a9.out);have aA:=zx (ad.out.keep a9.out (by simp));have bB:=zx (J.out.keep a9.out (by simp));clear bl bj a1 tb b7 ad J
 cases U with
 | false =>
  have HF:Hid (R= .ok [a]):=zx HR.out;have HZ:Hid (aI (jp [false])= -1):=zx rfl;rw[HZ.out];go_wp2;go_ret2
  exact ⟨by rw[HF.out];exact ⟨_,_,rfl,zz _,ej (n:=1) (HA.out.keep M.out) cx.out (fun j hj=>by match j,hj with
   | 0,_=>exact bB.out.cell 0)⟩,M.out⟩
 | true =>
  have HF:Hid (R= .error 13):=zx HR.out;have HZ:Hid (aI (jp [true])=0):=zx rfl;rw[HZ.out];have he:w6.cell? ⟨be,0,none⟩=some (zW zX 13):=aA.out.cell 0;have c2:be<w6.heap.size:=aA.out.lt;go_upto_region 36 with (fail)
  refine aB (by kernel_rfl) (by kernel_rfl) ?_;repeat (go_big_quiet_step (fail))
  refine wpQuiet_nil ?_;intro w9 cv;go_wp2;go_ret2;exact ⟨by rw[HF.out];rfl,M.out.trans cv⟩
theorem wh (at_ lk ln rk rn h:Int) (cols:List Bs) (op lc lw rc B:Bs) (Ao:Option Addr) (co:Nat) (Ai:Option Addr) (ni ci:Nat) (Ac:Option Addr) (cc:Nat) (a:List Cl) (b o ch:Nat) (A:Option Addr) (d:Nat) (w:World) (a6:uT w Ac cols op lw B a b o A d) :
  Calls zy 32 #[.agg #[zW zX at_,zW zX 6,zR Ao 1 co,zR Ai ni ci,zR Ac cols.length cc,zQ (bs op),zQ (bs lc),zW zX lk,zW zX ln,zQ (bs lw),zQ (bs rc),zW zX rk,zW zX rn,zQ (bs B),zW zX h],zR (some ⟨b,o,none⟩) 1 ch] w fun e w'=>dG (.ok [a]) e w'∧aa [] w w':=by
 obtain ⟨hE,hJ,a0,a4,a2,a3,J,U,hA,hl⟩:=a6;obtain ⟨R,hR⟩:∃ R,(.ok [a]:Except Int (List (List Cl)))=R:=⟨_,rfl⟩
 rw[hR];have HR:Hid (R= .ok [a]):=zx hR.symm;clear hR;have HS:=zx (gA (show aF 6=(1,1) by decide));obtain ⟨y,X,HY,HX,HK,HB⟩:=ou w #[zW zX at_,zW zX 6,zR Ao 1 co,zR Ai ni ci,zR Ac cols.length cc,zQ (bs op),zQ (bs lc),zW zX lk,zW zX ln,zQ (bs lw),zQ (bs rc),zW zX rk,zW zX rn,zQ (bs B),zW zX h] 59;have HA:=zx hA;have HJ:=zx hJ;have a1:=zx J;have a9:=zx hl;have HCL:=zx a0;have a5:=zx U;clear hA hJ hE a4 a2 a3 hl a0 U;go_enter Tryz.func32,Tryz.ntmps32
 go_upto_region 4 with ((with_reducible refine (HS.out _).mono ?_);rintro e w1 ⟨rfl,rfl⟩)
 rw[HX.out,HY.out];clear HX HY HS;have x4:y.cell? ⟨X,4,none⟩=some (zR Ac cols.length cc):=HB.out.cell 4;have M:=HK.out.cell_of J (by simp);have lX:X<y.heap.size:=HB.out.lt;have lb:b<y.heap.size:=zB _ _ M;clear J;go_cut [8,9] from 38 to 48 (fun u v wx=>∃ ba bn:Nat,u=zS (some ⟨ba,0,none⟩)∧v=zS (some ⟨bn,0,none⟩)∧Hid (ap wx ba 22 #[zR A a.length d])∧Hid (ap wx bn 3 #[zW zX cols.length])∧Hid (aa [] y wx))
 case first =>
  have T1:=zx (cF y 22 3 #[zR A a.length d] #[zW zX cols.length]);have T2:=zx (cF y 3 22 #[zW zX cols.length] #[zR A a.length d]);go_region
  all_goals go_wp2
  all_goals go_meet
  ·exact ⟨_,_,rfl,rfl,zx T1.out.1,zx T1.out.2.1,zx T1.out.2.2⟩
  exact ⟨_,_,rfl,rfl,zx T2.out.2.1,zx T2.out.1,zx T2.out.2.2⟩
 obtain ⟨ba,bn,rfl,rfl,O,a8,I⟩:=hcut;obtain ⟨y1,rfl⟩:∃ z:World,z=wc:=⟨_,rfl⟩
 clear x4 M lX lb;have D:=zx (HK.out.trans I.out);have aA:=zx (HB.out.keep I.out (by simp));clear HK HB I;have x1:y1.cell? ⟨X,1,none⟩=some (zW zX 6):=aA.out.cell 1;have xd:=D.out.cell_of a1.out (by simp);have xa:y1.cell? ⟨ba,0,none⟩=some (zR A a.length d):=O.out.cell 0;have lX:X<y1.heap.size:=aA.out.lt;have a7:ba<y1.heap.size:=O.out.lt;have ad:=zx (zO y1 22 #[zR A a.length d]);have Z:=zx ((zN [] y1).alloc (zU #[zR A a.length d] 22));go_wp2;go_ret2
 exact ⟨by rw[HR.out];exact ⟨_,_,rfl,zz _,ej (n:=1) (HA.out.keep (D.out.trans Z.out)) a5.out (fun j hj=>by match j,hj with
  | 0,_=>exact ad.out.cell 0)⟩,D.out.trans Z.out⟩
theorem wi (at_ lk ln O rn h:Int) (cols:List Bs) (op lc M Z D:Bs) (Ao:Option Addr) (co:Nat) (Ai:Option Addr) (ni ci:Nat) (U:Option Addr) (cc:Nat) (a:List Cl) (b o ch:Nat) (A:Option Addr) (d:Nat) (w:World) (b4:uT w U cols op M D a b o A d) (outs js:List Bs) (bm:fd w (⟨at_,7,outs,js,cols,op,⟨lc,⟨lk,ln,M⟩⟩,⟨Z,⟨O,rn,D⟩⟩,h⟩:Jb) Ao co U cc) (ho:outs.length=1) (J:List Cl) (B:Option Addr) (d2:Nat) (bd:w.cell? ⟨b,o+1,none⟩=some (zR B J.length d2)) (a4:J.length≤d2) (hB:Rd w [] 2 B J.length (ah J)) (a9:J.length≤4294967) (bl:(a.map (·.name)).Nodup) :
  Calls zy 32 #[.agg #[zW zX at_,zW zX 7,zR Ao 1 co,zR Ai ni ci,zR U cols.length cc,zQ (bs op),zQ (bs lc),zW zX lk,zW zX ln,zQ (bs M),zQ (bs Z),zW zX O,zW zX rn,zQ (bs D),zW zX h],zR (some ⟨b,o,none⟩) 2 ch] w fun e w'=>dG (cy (⟨at_,7,outs,js,cols,op,⟨lc,⟨lk,ln,M⟩⟩,⟨Z,⟨O,rn,D⟩⟩,h⟩:Jb) a J) e w'∧aa [] w w':=by
 obtain ⟨hE,hJ,bo,b3,bA,b1,a1,ad,hA,hl⟩:=b4;obtain ⟨R,hR⟩:∃ R,(cy (⟨at_,7,outs,js,cols,op,⟨lc,⟨lk,ln,M⟩⟩,⟨Z,⟨O,rn,D⟩⟩,h⟩:Jb) a J:Except Int (List (List Cl)))=R:=⟨_,rfl⟩
 rw[hR];have b0:=zx bd;obtain ⟨x0,rfl⟩:∃ x,outs=[x]:=by
  match outs,ho with
  | [x],_=>exact ⟨x,rfl⟩
 have bB:Hid (∀ W,aa [] w W→Calls zy 81 #[.agg #[zW zX at_,zW zX 7,zR Ao 1 co,zR Ai ni ci,zR U cols.length cc,zQ (bs op),zQ (bs lc),zW zX lk,zW zX ln,zQ (bs M),zQ (bs Z),zW zX O,zW zX rn,zQ (bs D),zW zX h],zR A a.length d,zR B J.length d2] W fun e W'=>dG R e W'∧aa [] W W'):=zx (fun W q=>by
  rw[←hR];exact qE (⟨at_,7,[x0],js,cols,op,⟨lc,⟨lk,ln,M⟩⟩,⟨Z,⟨O,rn,D⟩⟩,h⟩:Jb) a J Ao co Ai ni ci U cc A d B d2 W (bm.quiet q) (hA.keep q) ad hl (hB.keep q) a4 a9 bl)
 clear hR ho bm hB a4 a9 bl;have HS:=zx (gA (show aF 7=(2,1) by decide));obtain ⟨y,X,HY,HX,HK,HB⟩:=ou w #[zW zX at_,zW zX 7,zR Ao 1 co,zR Ai ni ci,zR U cols.length cc,zQ (bs op),zQ (bs lc),zW zX lk,zW zX ln,zQ (bs M),zQ (bs Z),zW zX O,zW zX rn,zQ (bs D),zW zX h] 59;have HA:=zx hA;have HJ:=zx hJ;have bq:=zx a1;have cq:=zx hl;have HCL:=zx bo;have cu:=zx ad;clear hA hJ hE b3 bA b1 hl bo ad;go_enter Tryz.func32,Tryz.ntmps32
 go_upto_region 4 with ((with_reducible refine (HS.out _).mono ?_);rintro e w1 ⟨rfl,rfl⟩)
 rw[HX.out,HY.out];clear HX HY HS;have x4:y.cell? ⟨X,4,none⟩=some (zR U cols.length cc):=HB.out.cell 4;have a2:=HK.out.cell_of a1 (by simp);have lX:X<y.heap.size:=HB.out.lt;have lb:b<y.heap.size:=zB _ _ a2;clear a1 bd;go_cut [8,9] from 38 to 48 (fun u v wx=>∃ ba bn:Nat,u=zS (some ⟨ba,0,none⟩)∧v=zS (some ⟨bn,0,none⟩)∧Hid (ap wx ba 22 #[zR A a.length d])∧Hid (ap wx bn 3 #[zW zX cols.length])∧Hid (aa [] y wx))
 case first =>
  have T1:=zx (cF y 22 3 #[zR A a.length d] #[zW zX cols.length]);have T2:=zx (cF y 3 22 #[zW zX cols.length] #[zR A a.length d]);go_region
  all_goals go_wp2
  all_goals go_meet
  ·exact ⟨_,_,rfl,rfl,zx T1.out.1,zx T1.out.2.1,zx T1.out.2.2⟩
  exact ⟨_,_,rfl,rfl,zx T2.out.2.1,zx T2.out.1,zx T2.out.2.2⟩
 obtain ⟨ba,bn,rfl,rfl,a3,cj,aA⟩:=hcut;obtain ⟨y1,rfl⟩:∃ z:World,z=wc:=⟨_,rfl⟩
 clear x4 a2 lX lb;have I:=zx (HK.out.trans aA.out);have a0:=zx (HB.out.keep aA.out (by simp));clear HK HB aA;have x1:y1.cell? ⟨X,1,none⟩=some (zW zX 7):=a0.out.cell 1;have xd:=I.out.cell_of bq.out (by simp);have b7:=I.out.cell_of b0.out (by simp);have xa:y1.cell? ⟨ba,0,none⟩=some (zR A a.length d):=a3.out.cell 0;have lX:X<y1.heap.size:=a0.out.lt;have cg:ba<y1.heap.size:=a3.out.lt;have b5:=zx (zO y1 22 #[zR A a.length d]);have a8:=zx ((zN [] y1).alloc (zU #[zR A a.length d] 22));obtain ⟨x0,-,x2,x3,x4,x5,x6,x7,x8,x9,cf,ct,b6,cp,cv,-⟩:=nF a0.out;go_wp2_with fail
 refine (bB.out _ (I.out.trans a8.out)).mono ?_;rintro e w9 ⟨a5,bk⟩;have bb:=zx (I.out.trans (a8.out.trans bk));clear bk
 cases R with
 | error x =>
  obtain rfl:e=_:=a5;go_wp2;go_ret2;exact ⟨rfl,bb.out⟩
 | ok out =>
  obtain ⟨B9,d9,rfl,a7,bj⟩:=a5;have a6:=zx (And.intro a7 bj);clear a7 bj;go_wp2;go_ret2;exact ⟨⟨_,_,rfl,a6.out.1,a6.out.2⟩,bb.out⟩
theorem wk (at_ lk ln rk rn bB:Int) (cols:List Bs) (op lc lw rc c7:Bs) (Ao:Option Addr) (co:Nat) (Ai:Option Addr) (ni ci:Nat) (Ac:Option Addr) (cc:Nat) (a:List Cl) (b o ch:Nat) (A:Option Addr) (d:Nat) (w:World) (fg:uT w Ac cols op lw c7 a b o A d) :
  Calls zy 32 #[.agg #[zW zX at_,zW zX 8,zR Ao 1 co,zR Ai ni ci,zR Ac cols.length cc,zQ (bs op),zQ (bs lc),zW zX lk,zW zX ln,zQ (bs lw),zQ (bs rc),zW zX rk,zW zX rn,zQ (bs c7),zW zX bB],zR (some ⟨b,o,none⟩) 1 ch] w fun e w'=>dG (iT (lC op cols a) [1,7,13,9] (fK cols a)) e w'∧aa [] w w':=by
 obtain ⟨hE,hJ,ez,er,e9,fb,d2,d7,hA,hl⟩:=fg;obtain ⟨R,hR⟩:∃ R,iT (lC op cols a) [1,7,13,9] (fK cols a)=R:=⟨_,rfl⟩
 rw[hR];have b6:Hid (∀ W,aa [] w W→Calls zy 77 #[zQ (bs op),zQ ⟨#[115,117,109,32,109,97,120]⟩] W fun e W'=>e=zT (.bool (decide (op∈ia)))∧aa [] W W'):=zx (fun W q=>(eS op [115,117,109,32,109,97,120] ia (by decide) (by decide) er (by decide) W (hE.quiet q)).mono fun e W' ⟨h1,h2⟩=>⟨h1,h2 ▸ zN _ _⟩);obtain ⟨b0,cv⟩:∃ b,(decide (cols.length≠2) || !decide (op∈ia))=b:=⟨_,rfl⟩
 obtain ⟨b1,cf⟩:∃ b,(decide (dx cols a 0=none)||decide (dx cols a 1=none))=b:=⟨_,rfl⟩
 obtain ⟨b2,cx⟩:∃ b:Bool,(match dx cols a 1 with
  | none=>false
  | some m=>(a.getD m zC).kind != 1)=b:=⟨_,rfl⟩
 obtain ⟨b3,bk⟩:∃ b,decide (aI (dx cols a 0)=aI (dx cols a 1))=b:=⟨_,rfl⟩
 have HR:Hid (R=iT [b0,b1,b2,b3] [1,7,13,9] (fK cols a)):=zx (by
  rw[←hR,←cv,←cf,←cx,←bk];unfold lC;cases dx cols a 1<;>rfl)
 obtain ⟨C0,ds⟩:∃ C,dx cols a 0=C:=⟨_,rfl⟩
 obtain ⟨C1,d4⟩:∃ C,dx cols a 1=C:=⟨_,rfl⟩
 obtain ⟨BO,d8⟩:∃ B,decide (op∈ia)=B:=⟨_,rfl⟩
 rw[ds] at cf bk;rw[d4] at cf cx bk;rw[d8] at b6 cv;have dq:=zx ds;have bd:=zx d4;have cp:=zx cv;have M:=zx cf;have Z:=zx cx;have O:=zx bk;clear hR ds d4 d8 cv cf cx bk;have HS:=zx (gA (show aF 8=(1,1) by decide));obtain ⟨y,X,HY,HX,HK,HB⟩:=ou w #[zW zX at_,zW zX 8,zR Ao 1 co,zR Ai ni ci,zR Ac cols.length cc,zQ (bs op),zQ (bs lc),zW zX lk,zW zX ln,zQ (bs lw),zQ (bs rc),zW zX rk,zW zX rn,zQ (bs c7),zW zX bB] 59;have HA:=zx hA;have HJ:=zx hJ;have e3:=zx d2;have a9:=zx hl;have HCL:=zx ez;have f5:=zx d7;clear hA hJ hE er e9 fb hl ez d7;go_enter Tryz.func32,Tryz.ntmps32
 go_upto_region 4 with ((with_reducible refine (HS.out _).mono ?_);rintro e w1 ⟨rfl,rfl⟩)
 rw[HX.out,HY.out];clear HX HY HS;have x4:y.cell? ⟨X,4,none⟩=some (zR Ac cols.length cc):=HB.out.cell 4;have d5:=HK.out.cell_of d2 (by simp);have lX:X<y.heap.size:=HB.out.lt;have lb:b<y.heap.size:=zB _ _ d5;clear d2;go_cut [8,9] from 38 to 48 (fun u v wx=>∃ ba bn:Nat,u=zS (some ⟨ba,0,none⟩)∧v=zS (some ⟨bn,0,none⟩)∧Hid (ap wx ba 22 #[zR A a.length d])∧Hid (ap wx bn 3 #[zW zX cols.length])∧Hid (aa [] y wx))
 case first =>
  have T1:=zx (cF y 22 3 #[zR A a.length d] #[zW zX cols.length]);have T2:=zx (cF y 3 22 #[zW zX cols.length] #[zR A a.length d]);go_region
  all_goals go_wp2
  all_goals go_meet
  ·exact ⟨_,_,rfl,rfl,zx T1.out.1,zx T1.out.2.1,zx T1.out.2.2⟩
  exact ⟨_,_,rfl,rfl,zx T2.out.2.1,zx T2.out.1,zx T2.out.2.2⟩
 obtain ⟨ba,bn,rfl,rfl,cg,eb,d1⟩:=hcut;obtain ⟨y1,rfl⟩:∃ z:World,z=wc:=⟨_,rfl⟩
 clear x4 d5 lX lb;have c8:=zx (HK.out.trans d1.out);have c0:=zx (HB.out.keep d1.out (by simp));clear HK HB d1;have x1:y1.cell? ⟨X,1,none⟩=some (zW zX 8):=c0.out.cell 1;have xd:=c8.out.cell_of e3.out (by simp);have xa:y1.cell? ⟨ba,0,none⟩=some (zR A a.length d):=cg.out.cell 0;have lX:X<y1.heap.size:=c0.out.lt;have d0:ba<y1.heap.size:=cg.out.lt;have b5:=zx (zO y1 22 #[zR A a.length d]);have bA:=zx ((zN [] y1).alloc (zU #[zR A a.length d] 22));go_upto_block 0 with (fail)
 obtain ⟨y2,ct⟩:∃ z,y1.alloc (zU #[zR A a.length d] 22)=z:=⟨_,rfl⟩
 obtain ⟨bo,cu⟩:∃ z,y1.heap.size=z:=⟨_,rfl⟩
 rw[ct,cu] at b5;rw[ct] at bA;rw[ct,cu];have fu:Hid (w.heap.size≤bo):=zx (cu ▸ c8.out.size);have bl:=zx (c8.out.trans bA.out);have bj:=zx (c0.out.keep bA.out (by simp));have a5:=zx (cg.out.keep bA.out (by simp));have bb:=zx (eb.out.keep bA.out (by simp));clear ct cu c0 cg eb bA x1 xd xa lX d0;have a7:Hid (∀ W,aa [] y2 W→Calls zy 74 #[zW zX 0,zS (some ⟨bn,0,none⟩),zS (some ⟨ba,0,none⟩),zS (some ⟨X,0,none⟩)] W fun e W'=>e=zT (zW zX (aI C0))∧aa [] W W'):=zx (fun W z=>by
  have h:=lR 0 cols a A Ac d cc bn ba X W (HA.out.keep (bl.out.trans z)) (by have:=a9.out;omega) (HJ.out.keep (bl.out.trans z)) HCL.out ((bb.out.keep z (by simp)).cell 0) ((a5.out.keep z (by simp)).cell 0) ((bj.out.keep z (by simp)).cell 4);rw[dq.out] at h;exact h)
 have a8:Hid (∀ W,aa [] y2 W→Calls zy 74 #[zW zX 1,zS (some ⟨bn,0,none⟩),zS (some ⟨ba,0,none⟩),zS (some ⟨X,0,none⟩)] W fun e W'=>e=zT (zW zX (aI C1))∧aa [] W W'):=zx (fun W z=>by
  have h:=lR 1 cols a A Ac d cc bn ba X W (HA.out.keep (bl.out.trans z)) (by have:=a9.out;omega) (HJ.out.keep (bl.out.trans z)) HCL.out ((bb.out.keep z (by simp)).cell 0) ((a5.out.keep z (by simp)).cell 0) ((bj.out.keep z (by simp)).cell 4);rw[bd.out] at h;exact h)
 go_cut [12,14,15] from 54 to 225 (fun o e u wx=>∃ be bq:Nat,o=zR (some ⟨bq,0,none⟩) 1 1∧e=zR (some ⟨be,0,none⟩) 4 4∧u=zW zX (aI (jp [b0,b1,b2,b3]))∧Hid (ap wx be 34 #[zW zX 1,zW zX 7,zW zX 13,zW zX 9])∧Hid (jp [b0,b1,b2,b3]=none→aW wx (some ⟨bq,0,none⟩) (fK cols a))∧Hid (aa [] y2 wx))
 case first =>
  have ek:=zx (zO y2 34 #[zW zX 1,zW zX 7,zW zX 13,zW zX 9]);have a4:=zx ((zN [] y2).alloc (zU #[zW zX 1,zW zX 7,zW zX 13,zW zX 9] 34));have xc:y2.cell? ⟨X,1,none⟩=some (zW zX 8):=bj.out.cell 1;have e5:X<y2.heap.size:=bj.out.lt;go_upto_region 32 with (fail)
  obtain ⟨y4,cj⟩:∃ z,y2.alloc (zU #[zW zX 1,zW zX 7,zW zX 13,zW zX 9] 34)=z:=⟨_,rfl⟩
  obtain ⟨be,d3⟩:∃ z,y2.heap.size=z:=⟨_,rfl⟩
  rw[cj,d3] at ek;rw[cj] at a4;rw[cj,d3];clear cj d3 xc e5;have b7:=zx (bl.out.trans a4.out);go_cut [15] from 174 to 211 (fun u wx=>u=zW zX (aI (jp [b0,b1,b2,b3]))∧Hid (aa [] y4 wx))
  case first =>
   have x5:y4.cell? ⟨X,5,none⟩=some (zQ (bs op)):=(bj.out.keep a4.out (by simp)).cell 5;have xa:y4.cell? ⟨ba,0,none⟩=some (zR A a.length d):=(a5.out.keep a4.out (by simp)).cell 0;have xn:y4.cell? ⟨bn,0,none⟩=some (zW zX cols.length):=(bb.out.keep a4.out (by simp)).cell 0;have lX:X<y4.heap.size:=(bj.out.keep a4.out (by simp)).lt;have d0:ba<y4.heap.size:=(a5.out.keep a4.out (by simp)).lt;have f2:bn<y4.heap.size:=(bb.out.keep a4.out (by simp)).lt;have G1:=zx (fun W (z:aa [] y4 W)=>b6.out W (b7.out.trans z));have J:=zx (fun W (z:aa [] y4 W)=>a7.out W (a4.out.trans z));have I:=zx (fun W (z:aa [] y4 W)=>a8.out W (a4.out.trans z));clear a7 a8 b6 bj a5 bb b5 HR;have e0:(((cols.length:Int) != 2)=true∧b0=true)∨(((cols.length:Int) != 2)=false∧(!BO)=b0):=by
    by_cases h:cols.length=2
    ·exact .inr ⟨by rw[h];rfl,by rw[←cp.out,decide_eq_false (by simpa using h)];rfl⟩
    exact .inl ⟨by rw[bne_iff_ne];omega,by rw[←cp.out,decide_eq_true h];rfl⟩
   clear cp;rcases e0 with ⟨tn,rfl⟩|⟨tn,tb⟩
   ·cases C0 with
    | none =>
     obtain rfl:b1=true:=M.out.symm.trans rfl
     cases C1 with
     | none =>
      obtain rfl:b2=false:=Z.out.symm;obtain rfl:b3=true:=O.out.symm.trans (decide_eq_true rfl);clear M Z O;simp only[aI] at J I;refine cP 35 (by kernel_rfl) (by kernel_rfl) rfl ?_;simp only[List.take_succ_cons,List.take_zero,List.drop_succ_cons,List.drop_zero];repeat (go_big_quiet_step (first|with_reducible exact zP G1.out _|with_reducible exact zP J.out _|with_reducible exact zP I.out _))
      refine wpQuiet_nil ?_;intro w3 D;have aA:=zx (ed w3 [true,true,false,true] (by simp));have a0:=zx D;refine ⟨zR (some ⟨w3.heap.size,0,none⟩) 4 4,w3.alloc (zU #[.bool true,.bool true,.bool false,.bool true] 4),by go_simp,D.alloc _,?_⟩;go_wp2_with (refine aA.out.mono ?_;rintro e w9 ⟨rfl,ad⟩)
      go_meet;exact ⟨rfl,zx ((a0.out.alloc _).trans ad)⟩
     | some m =>
      obtain rfl:b3=false:=O.out.symm.trans (decide_eq_false (by simp only[aI];omega));have te:((-1:Int)==(m:Int))=false:=by rw[beq_eq_false_iff_ne];omega
      have a1:m<a.length:=fA bd.out;have a2:a.getD m zC=a[m]:=by rw[zM,zI a1];rfl
      have tk:(a[m].kind != 1)=b2:=by rw[←a2];exact Z.out
      have hl:=a9.out;obtain ⟨b4,o4,a6,_,c3,U⟩:=(HA.out.keep b7.out).open' (by omega) (by omega);subst a6;have ka:=U (m*2+1) _ (al a m a1).2;rw[←Nat.add_assoc] at ka;have c2:(0:Int)≤(m:Int):=by omega
      have cq:(m:Int)<(a.length:Int):=by omega
      have dB:((m:Int)<0)=False:=eq_false (by omega);have c9:max (m:Int) 0=(m:Int):=by omega
      have c1:b4<y4.heap.size:=zB _ _ ka;clear a2 U hl;generalize a[m].kind=KA at *;clear M Z O;simp only[aI] at J I;refine cP 35 (by kernel_rfl) (by kernel_rfl) rfl ?_;simp only[List.take_succ_cons,List.take_zero,List.drop_succ_cons,List.drop_zero];repeat (go_big_quiet_step (first|with_reducible exact zP G1.out _|with_reducible exact zP J.out _|with_reducible exact zP I.out _))
      refine wpQuiet_nil ?_;intro w3 D;have aA:=zx (ed w3 [true,true,b2,false] (by simp));have a0:=zx D;refine ⟨zR (some ⟨w3.heap.size,0,none⟩) 4 4,w3.alloc (zU #[.bool true,.bool true,.bool b2,.bool false] 4),by go_simp,D.alloc _,?_⟩;go_wp2_with (refine aA.out.mono ?_;rintro e w9 ⟨rfl,ad⟩)
      go_meet;exact ⟨rfl,zx ((a0.out.alloc _).trans ad)⟩
    | some k =>
     have ft:(0:Int)≤(k:Int):=by omega
     have e4:((k:Int)<0)=False:=eq_false (by omega)
     cases C1 with
     | none =>
      obtain rfl:b1=true:=M.out.symm.trans rfl;obtain rfl:b2=false:=Z.out.symm;obtain rfl:b3=false:=O.out.symm.trans (decide_eq_false (by simp only[aI];omega));have te:((k:Int)==(-1:Int))=false:=by rw[beq_eq_false_iff_ne];omega
      clear M Z O;simp only[aI] at J I;refine cP 35 (by kernel_rfl) (by kernel_rfl) rfl ?_;simp only[List.take_succ_cons,List.take_zero,List.drop_succ_cons,List.drop_zero];repeat (go_big_quiet_step (first|with_reducible exact zP G1.out _|with_reducible exact zP J.out _|with_reducible exact zP I.out _))
      refine wpQuiet_nil ?_;intro w3 D;have aA:=zx (ed w3 [true,true,false,false] (by simp));have a0:=zx D;refine ⟨zR (some ⟨w3.heap.size,0,none⟩) 4 4,w3.alloc (zU #[.bool true,.bool true,.bool false,.bool false] 4),by go_simp,D.alloc _,?_⟩;go_wp2_with (refine aA.out.mono ?_;rintro e w9 ⟨rfl,ad⟩)
      go_meet;exact ⟨rfl,zx ((a0.out.alloc _).trans ad)⟩
     | some m =>
      obtain rfl:b1=false:=M.out.symm.trans rfl;have te:((k:Int)==(m:Int))=b3:=by
       rw[←O.out];by_cases h:(k:Int)=(m:Int)
       ·rw[decide_eq_true (by simpa only[aI] using h),beq_iff_eq];exact h
       rw[decide_eq_false (by simpa only[aI] using h),beq_eq_false_iff_ne];exact h
      have a1:m<a.length:=fA bd.out;have a2:a.getD m zC=a[m]:=by rw[zM,zI a1];rfl
      have tk:(a[m].kind != 1)=b2:=by rw[←a2];exact Z.out
      have hl:=a9.out;obtain ⟨b4,o4,a6,_,c3,U⟩:=(HA.out.keep b7.out).open' (by omega) (by omega);subst a6;have ka:=U (m*2+1) _ (al a m a1).2;rw[←Nat.add_assoc] at ka;have c2:(0:Int)≤(m:Int):=by omega
      have cq:(m:Int)<(a.length:Int):=by omega
      have dB:((m:Int)<0)=False:=eq_false (by omega);have c9:max (m:Int) 0=(m:Int):=by omega
      have c1:b4<y4.heap.size:=zB _ _ ka;clear a2 U hl;generalize a[m].kind=KA at *;clear M Z O;simp only[aI] at J I;refine cP 35 (by kernel_rfl) (by kernel_rfl) rfl ?_;simp only[List.take_succ_cons,List.take_zero,List.drop_succ_cons,List.drop_zero];repeat (go_big_quiet_step (first|with_reducible exact zP G1.out _|with_reducible exact zP J.out _|with_reducible exact zP I.out _))
      refine wpQuiet_nil ?_;intro w3 D;have aA:=zx (ed w3 [true,false,b2,b3] (by simp));have a0:=zx D;refine ⟨zR (some ⟨w3.heap.size,0,none⟩) 4 4,w3.alloc (zU #[.bool true,.bool false,.bool b2,.bool b3] 4),by go_simp,D.alloc _,?_⟩;go_wp2_with (refine aA.out.mono ?_;rintro e w9 ⟨rfl,ad⟩)
      go_meet;exact ⟨rfl,zx ((a0.out.alloc _).trans ad)⟩
   cases C0 with
   | none =>
    obtain rfl:b1=true:=M.out.symm.trans rfl
    cases C1 with
    | none =>
     obtain rfl:b2=false:=Z.out.symm;obtain rfl:b3=true:=O.out.symm.trans (decide_eq_true rfl);clear M Z O;simp only[aI] at J I;refine cP 35 (by kernel_rfl) (by kernel_rfl) rfl ?_;simp only[List.take_succ_cons,List.take_zero,List.drop_succ_cons,List.drop_zero];repeat (go_big_quiet_step (first|with_reducible exact zP G1.out _|with_reducible exact zP J.out _|with_reducible exact zP I.out _))
     refine wpQuiet_nil ?_;intro w3 D;have aA:=zx (ed w3 [b0,true,false,true] (by simp));have a0:=zx D;refine ⟨zR (some ⟨w3.heap.size,0,none⟩) 4 4,w3.alloc (zU #[.bool b0,.bool true,.bool false,.bool true] 4),by go_simp,D.alloc _,?_⟩;go_wp2_with (refine aA.out.mono ?_;rintro e w9 ⟨rfl,ad⟩)
     go_meet;exact ⟨rfl,zx ((a0.out.alloc _).trans ad)⟩
    | some m =>
     obtain rfl:b3=false:=O.out.symm.trans (decide_eq_false (by simp only[aI];omega));have te:((-1:Int)==(m:Int))=false:=by rw[beq_eq_false_iff_ne];omega
     have a1:m<a.length:=fA bd.out;have a2:a.getD m zC=a[m]:=by rw[zM,zI a1];rfl
     have tk:(a[m].kind != 1)=b2:=by rw[←a2];exact Z.out
     have hl:=a9.out;obtain ⟨b4,o4,a6,_,c3,U⟩:=(HA.out.keep b7.out).open' (by omega) (by omega);subst a6;have ka:=U (m*2+1) _ (al a m a1).2;rw[←Nat.add_assoc] at ka;have c2:(0:Int)≤(m:Int):=by omega
     have cq:(m:Int)<(a.length:Int):=by omega
     have dB:((m:Int)<0)=False:=eq_false (by omega);have c9:max (m:Int) 0=(m:Int):=by omega
     have c1:b4<y4.heap.size:=zB _ _ ka;clear a2 U hl;generalize a[m].kind=KA at *;clear M Z O;simp only[aI] at J I;refine cP 35 (by kernel_rfl) (by kernel_rfl) rfl ?_;simp only[List.take_succ_cons,List.take_zero,List.drop_succ_cons,List.drop_zero];repeat (go_big_quiet_step (first|with_reducible exact zP G1.out _|with_reducible exact zP J.out _|with_reducible exact zP I.out _))
     refine wpQuiet_nil ?_;intro w3 D;have aA:=zx (ed w3 [b0,true,b2,false] (by simp));have a0:=zx D;refine ⟨zR (some ⟨w3.heap.size,0,none⟩) 4 4,w3.alloc (zU #[.bool b0,.bool true,.bool b2,.bool false] 4),by go_simp,D.alloc _,?_⟩;go_wp2_with (refine aA.out.mono ?_;rintro e w9 ⟨rfl,ad⟩)
     go_meet;exact ⟨rfl,zx ((a0.out.alloc _).trans ad)⟩
   | some k =>
    have ft:(0:Int)≤(k:Int):=by omega
    have e4:((k:Int)<0)=False:=eq_false (by omega)
    cases C1 with
    | none =>
     obtain rfl:b1=true:=M.out.symm.trans rfl;obtain rfl:b2=false:=Z.out.symm;obtain rfl:b3=false:=O.out.symm.trans (decide_eq_false (by simp only[aI];omega));have te:((k:Int)==(-1:Int))=false:=by rw[beq_eq_false_iff_ne];omega
     clear M Z O;simp only[aI] at J I;refine cP 35 (by kernel_rfl) (by kernel_rfl) rfl ?_;simp only[List.take_succ_cons,List.take_zero,List.drop_succ_cons,List.drop_zero];repeat (go_big_quiet_step (first|with_reducible exact zP G1.out _|with_reducible exact zP J.out _|with_reducible exact zP I.out _))
     refine wpQuiet_nil ?_;intro w3 D;have aA:=zx (ed w3 [b0,true,false,false] (by simp));have a0:=zx D;refine ⟨zR (some ⟨w3.heap.size,0,none⟩) 4 4,w3.alloc (zU #[.bool b0,.bool true,.bool false,.bool false] 4),by go_simp,D.alloc _,?_⟩;go_wp2_with (refine aA.out.mono ?_;rintro e w9 ⟨rfl,ad⟩)
     go_meet;exact ⟨rfl,zx ((a0.out.alloc _).trans ad)⟩
    | some m =>
     obtain rfl:b1=false:=M.out.symm.trans rfl;have te:((k:Int)==(m:Int))=b3:=by
      rw[←O.out];by_cases h:(k:Int)=(m:Int)
      ·rw[decide_eq_true (by simpa only[aI] using h),beq_iff_eq];exact h
      rw[decide_eq_false (by simpa only[aI] using h),beq_eq_false_iff_ne];exact h
     have a1:m<a.length:=fA bd.out;have a2:a.getD m zC=a[m]:=by rw[zM,zI a1];rfl
     have tk:(a[m].kind != 1)=b2:=by rw[←a2];exact Z.out
     have hl:=a9.out;obtain ⟨b4,o4,a6,_,c3,U⟩:=(HA.out.keep b7.out).open' (by omega) (by omega);subst a6;have ka:=U (m*2+1) _ (al a m a1).2;rw[←Nat.add_assoc] at ka;have c2:(0:Int)≤(m:Int):=by omega
     have cq:(m:Int)<(a.length:Int):=by omega
     have dB:((m:Int)<0)=False:=eq_false (by omega);have c9:max (m:Int) 0=(m:Int):=by omega
     have c1:b4<y4.heap.size:=zB _ _ ka;clear a2 U hl;generalize a[m].kind=KA at *;clear M Z O;simp only[aI] at J I;refine cP 35 (by kernel_rfl) (by kernel_rfl) rfl ?_;simp only[List.take_succ_cons,List.take_zero,List.drop_succ_cons,List.drop_zero];repeat (go_big_quiet_step (first|with_reducible exact zP G1.out _|with_reducible exact zP J.out _|with_reducible exact zP I.out _))
     refine wpQuiet_nil ?_;intro w3 D;have aA:=zx (ed w3 [b0,false,b2,b3] (by simp));have a0:=zx D;refine ⟨zR (some ⟨w3.heap.size,0,none⟩) 4 4,w3.alloc (zU #[.bool b0,.bool false,.bool b2,.bool b3] 4),by go_simp,D.alloc _,?_⟩;go_wp2_with (refine aA.out.mono ?_;rintro e w9 ⟨rfl,ad⟩)
     go_meet;exact ⟨rfl,zx ((a0.out.alloc _).trans ad)⟩
  obtain ⟨rfl,en⟩:=hcut;obtain ⟨y5,rfl⟩:∃ z:World,z=wc:=⟨_,rfl⟩
  have a3:=zx (a4.out.trans en.out);have c4:=zx (ek.out.keep en.out (by simp))
  cases hV:jp [b0,b1,b2,b3] with
  | some i =>
   have ff:((i:Int)<0)=False:=eq_false (by omega);have HN:Hid (jp [b0,b1,b2,b3]=none→aW y5 (some ⟨bo,0,none⟩) (fK cols a)):=zx (fun h=>by rw[hV] at h;cases h);have HV:=zx hV;clear hV;simp only[aI];go_wp2;go_meet;exact ⟨_,_,rfl,rfl,by rw[HV.out];rfl,c4,HN,a3⟩
  | none =>
   have c5:=vf hV;have h1:b1=false:=c5 b1 (by simp);have HV:=zx hV;clear hV;obtain ⟨k,rfl⟩:∃ k,C0=some k:=by
    cases C0 with
    | some k=>exact ⟨k,rfl⟩
    | none=>have:=M.out;rw[h1] at this;simp at this
   obtain ⟨m,rfl⟩:∃ k,C1=some k:=by
    cases C1 with
    | some k=>exact ⟨k,rfl⟩
    | none=>have:=M.out;rw[h1] at this;simp at this
   have a1:k<a.length:=fA dq.out;have dv:m<a.length:=fA bd.out;have d9:Hid (fK cols a=[[a[k],a[m]]]):=zx (by
    unfold fK;rw[dq.out,bd.out];simp only[Option.getD_some];rw[zM,zI a1,zM,zI dv];rfl)
   have fc:=zx (bl.out.trans a3.out);have hl:=a9.out;obtain ⟨b4,o4,a6,_,c3,U⟩:=(HA.out.keep fc.out).open' (by omega) (by omega);subst a6;have k0:=U (k*2) _ (al a k a1).1;have k1:=U (k*2+1) _ (al a k a1).2;have m0:=U (m*2) _ (al a m dv).1;have m1:=U (m*2+1) _ (al a m dv).2;rw[←Nat.add_assoc] at k1 m1;have c2:(0:Int)≤(k:Int):=by omega
   have cq:(k:Int)<(a.length:Int):=by omega
   have f3:(0:Int)≤(m:Int):=by omega
   have f1:(m:Int)<(a.length:Int):=by omega
   have c1:b4<y5.heap.size:=zB _ _ k0;have xa:y5.cell? ⟨ba,0,none⟩=some (zR (some ⟨b4,o4,none⟩) a.length d):=(a5.out.keep a3.out (by simp)).cell 0;have d0:ba<y5.heap.size:=(a5.out.keep a3.out (by simp)).lt;have J:=zx (fun W (z:aa [] y5 W)=>a7.out W (a3.out.trans z));have I:=zx (fun W (z:aa [] y5 W)=>a8.out W (a3.out.trans z));clear a7 a8 U c5 h1 hl;simp only[aI] at J I;simp only[aI];generalize a[k]=ck at *;generalize a[m]=cm at *;obtain ⟨nk,kk⟩:=ck;obtain ⟨nm,km⟩:=cm;simp only at k0 k1 m0 m1 d9;go_upto_region 34 with (fail)
   refine kr 10 (by kernel_rfl) (by kernel_rfl) (by kernel_rfl) (by kernel_rfl) (by kernel_rfl) ?_;simp only[List.take_succ_cons,List.take_zero,List.drop_succ_cons,List.drop_zero];repeat (go_big_quiet_step (first|with_reducible exact zP J.out _|with_reducible exact zP I.out _))
   refine wpQuiet_nil ?_;intro w3 D;have bk:=zO w3 109 #[zQ (bs nk),zW zX kk,zQ (bs nm),zW zX km];have d6:=zx (cU (l:=[⟨nk,kk⟩,⟨nm,km⟩]) (c:=2) (vV bk [⟨nk,kk⟩,⟨nm,km⟩] rfl) (by show 2≤2;omega) 22);rw[gh] at d6;have et:=zx ((D.alloc (zU #[zQ (bs nk),zW zX kk,zQ (bs nm),zW zX km] 109)).alloc (zU #[zR (some ⟨w3.heap.size,0,none⟩) 2 2] 22));go_wp2;go_meet;exact ⟨_,_,rfl,rfl,by rw[HV.out];rfl,zx (c4.out.keep et.out (by simp)),zx (fun _=>by rw[d9.out];exact d6.out),zx (a3.out.trans et.out)⟩
 obtain ⟨be,bq,rfl,rfl,rfl,el,ep,es⟩:=hcut;obtain ⟨y3,rfl⟩:∃ z:World,z=wc:=⟨_,rfl⟩
 clear a7 a8 cp M Z O a9 HCL;have c6:=zx (bl.out.trans es.out);have fv:=zx (b5.out.keep es.out (by simp));have bm:=zx el.out
 cases hV:jp [b0,b1,b2,b3] with
 | none =>
  have HF:Hid (R= .ok (fK cols a)):=zx (by rw[HR.out];unfold iT;rw[hV]);have em:=zx (ep.out hV);clear hV ep;simp only[aI];go_wp2;go_ret2;exact ⟨by rw[HF.out];exact ⟨_,_,rfl,zz _,em.out⟩,c6.out⟩
 | some i =>
  have hi:i<4:=n6 hV;have HF:Hid (R= .error ([1,7,13,9].getD i 0)):=zx (by rw[HR.out];unfold iT;rw[hV]);clear hV;simp only[aI];have ff:(0:Int)≤(i:Int):=by omega
  have fS:(i:Int)<4:=by omega
  have fz:((i:Int)<0)=False:=eq_false (by omega);go_upto_region 36 with (fail)
  have HE:Hid (∃ e,y3.cell? ⟨be,i,none⟩=some (zW zX e)∧R= .error e):=zx (by
   rw[HF.out]
   match i,hi with
   | 0,_=>exact ⟨_,bm.out.cell 0,rfl⟩
   | 1,_=>exact ⟨_,bm.out.cell 1,rfl⟩
   | 2,_=>exact ⟨_,bm.out.cell 2,rfl⟩
   | 3,_=>exact ⟨_,bm.out.cell 3,rfl⟩)
  obtain ⟨ev,he,_⟩:=HE.out;have fn:Hid (R= .error ev):=zx (by
   obtain ⟨e2,h1,h2⟩:=HE.out;rw[he] at h1;cases h1
   exact h2)
  have f0:be<y3.heap.size:=zB _ _ he;clear HE;refine aB (by kernel_rfl) (by kernel_rfl) ?_;repeat (go_big_quiet_step (fail))
  refine wpQuiet_nil ?_;intro w9 ad;go_wp2;go_ret2;exact ⟨by rw[fn.out];rfl,c6.out.trans ad⟩
end
end Go.Proofs.YtpagiajlefejcaaGreatDoor
