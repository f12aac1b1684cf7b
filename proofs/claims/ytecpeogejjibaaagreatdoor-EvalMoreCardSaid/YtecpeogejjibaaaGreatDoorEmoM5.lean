/- slices.Equal over columns and over values, EqualFunc over rows; foremankeep.same. slices.swapRangeCmpFunc at rows. slices.insertionSortCmpFunc at rows. slices.symMergeCmpFunc at rows: one ahead. slices.symMergeCmpFunc at rows: one behind. slices.rotateCmpFunc at rows. slices.symMergeCmpFunc at rows, whole. slices.symMergeCmpFunc at rows, whole. slices.stableCmpFunc and SortStableFunc at rows. -/
import Derived.Test.YtecpeogejjibaaaGreatDoorEmoM2
import Derived.Test.YtecpeogejjibaaaGreatDoorEmoM3
import Derived.Test.YtecpeogejjibaaaGreatDoorEmoM4
import Derived.Deep.CutBlock
import Derived.Deep.DeepCutAuto
import Derived.Deep.CutRange
set_option linter.unusedSimpArgs false
set_option linter.unusedVariables false
set_option maxRecDepth 100000
set_option maxHeartbeats 16000000
namespace Go.Proofs.YtecpeogejjibaaaGreatDoor
open Go.Lib renaming hid → Fx
open _root_.Nat renaming le_refl → Fy, zero_le → FF
open _root_.List renaming length_append → Fz, getElem?_eq_getElem → FA, getElem_mem → FE, length_take → FH
open aa renaming refl → FK
open Go.Value renaming slice → FN, pointer → FO, int → FR
open Go.Ending renaming returned → FP
open Go.IntKind renaming i64 → FS
section
open Go.RowKit
attribute [local go_sem] ag ab ae af
theorem un (l m:List Vl) (A B:Option Addr) (c d:Nat) (w:World) (hA:Rd w [] 3 A l.length (al l)) (hB:Rd w [] 3 B m.length (al m)) (hl:l.length≤4294967296) (hm:m.length≤4294967296) :
  Calls Tryz.prog 27 #[FN A l.length c,FN B m.length d] w fun e w'=>e=FP (.bool (decide (l=m)))∧aa [] w w':=by
 have HA:=Fx hA;have HB:=Fx hB;clear hA hB;by_cases D:l.length=m.length
 ·have t1:((l.length:Int) != (m.length:Int))=false:=by rw[D];simp
  have t2:(l.length != m.length)=false:=by rw[D];simp
  have HL:=Fx D;clear D;go_enter Tryz.func27,Tryz.ntmps27
  go_wp2;go_loopw [13] (fun i wr=>∃ n:Nat,n≤l.length∧i=FR FS n∧Hid (l.take n=m.take n)∧aa [] w wr) (fun i _=>l.length-(intOf i).toNat)
  case atStart=>exact ⟨0,FF _,rfl,by rw[List.take_zero,List.take_zero];exact rfl,FK _ _⟩
  obtain ⟨n,hn,rfl,ad,hk⟩:=hrel;by_cases M:n<l.length
  ·have I:n<m.length:=by rw[←HL.out];exact M
   obtain ⟨b,o,rfl,_,hb,hc⟩:=(HA.out.keep hk).open' (by omega) (by omega);obtain ⟨b2,o2,rfl,_,a0,U⟩:=(HB.out.keep hk).open' (by omega) (by omega);have d1:=hc (n*3) _ (ay l n M).1;have d2:=hc (n*3+1) _ (ay l n M).2.1;have d3:=hc (n*3+2) _ (ay l n M).2.2;have e1:=U (n*3) _ (ay m n I).1;have e2:=U (n*3+1) _ (ay m n I).2.1;have e3:=U (n*3+2) _ (ay m n I).2.2;rw[←Nat.add_assoc] at d2 d3 e2 e3;have aA:(0:Int)≤(n:Int):=by omega
   have a1:(n:Int)<(l.length:Int):=by omega
   have a2:(n:Int)<(m.length:Int):=by omega
   have Z:l.take (n+1)=l.take n++[l[n]]:=List.take_succ_eq_append_getElem M;have O:m.take (n+1)=m.take n++[m[n]]:=List.take_succ_eq_append_getElem I;have N:l[n]≠m[n]→decide (l=m)=false:=fun h=>by
    rw[decide_eq_false_iff_not];rintro rfl;exact h rfl
   have hq:=Dj l[n] m[n];generalize l[n]=x at *;generalize m[n]=y at *;clear hc U;by_cases J:x=y
   ·have hno':Hid (l.take (n+1)=m.take (n+1)):=Fx (by rw[Z,O,ad.out,J])
    rw[decide_eq_true J] at hq;clear Z O N J;go_wp2_with fail
    go_quiet (fail)
    go_wp2;go_roundw
    case rel=>exact ⟨n+1,by omega,by go_num,hno',hk.drewN _⟩
    case measure=>simp[intOf];omega
   have HD:=Fx (N J);rw[decide_eq_false J] at hq;clear Z O N J;go_wp2_with fail
   go_quiet (fail)
   go_wp2;go_ret;exact ⟨by rw[HD.out];rfl,hk.drewN _⟩
  have av:Hid (decide (l=m)=true):=Fx (by
   have h:=ad.out;rw[List.take_of_length_le (by omega),List.take_of_length_le (by rw[←HL.out];omega)] at h;exact decide_eq_true h)
  go_wp2;go_ret;exact ⟨by rw[av.out];rfl,hk⟩
 have t1:((l.length:Int) != (m.length:Int))=true:=by rw[bne_iff_ne];omega
 have t2:(l.length != m.length)=true:=by rw[bne_iff_ne];exact D
 have HD:Hid (decide (l=m)=false):=Fx (by rw[decide_eq_false_iff_not];rintro rfl;exact D rfl);clear D;go_enter Tryz.func27,Tryz.ntmps27
 go_wp2;go_ret;exact ⟨by rw[HD.out];rfl,FK _ _⟩
theorem sf (l m:List Vl) (A B:Option Addr) (c d:Nat) (w:World) (D:Rd w [] 3 A l.length (al l)) (I:Rd w [] 3 B m.length (al m)) (N:l.length≤4294967296) (M:m.length≤4294967296) :
  Calls Tryz.prog 26 #[FN A l.length c,FN B m.length d] w fun e w'=>e=FP (.bool (decide (l=m)))∧aa [] w w':=by
 have J:=Fx (un l m A B c d w D I N M);clear D I;generalize decide (l=m)=R at *;go_enter Tryz.func26,Tryz.ntmps26
 go_wp2_with (go_at_call 27;refine J.out.mono ?_;rintro e O ⟨rfl,h⟩)
 go_ret;exact ⟨rfl,h⟩
theorem pN (l m:List (List Vl)) (A B:Option Addr) (c d:Nat) (w:World) (hA:cM w [] A l) (hB:cM w [] B m) (hl:l.length≤4294967296) (hm:m.length≤4294967296) (a0:∀ r∈l,r.length≤4294967296) (a2:∀ r∈m,r.length≤4294967296) :
  Calls Tryz.prog 25 #[FN A l.length c,FN B m.length d,.func (.func 26) #[] #[]] w fun e w'=>e=FP (.bool (decide (l=m)))∧aa [] w w':=by
 have HA:=Fx hA;have HB:=Fx hB;have be:=Fx a0;have bc:=Fx a2;clear hA hB a0 a2;by_cases D:l.length=m.length
 ·have t1:((l.length:Int) != (m.length:Int))=false:=by rw[D];simp
  have t2:(l.length != m.length)=false:=by rw[D];simp
  have HL:=Fx D;clear D;go_enter Tryz.func25,Tryz.ntmps25
  go_wp2;go_loopw [17] (fun i wr=>∃ n:Nat,n≤l.length∧i=FR FS n∧Hid (l.take n=m.take n)∧aa [] w wr) (fun i _=>l.length-(intOf i).toNat)
  case atStart=>exact ⟨0,FF _,rfl,by rw[List.take_zero,List.take_zero];exact rfl,FK _ _⟩
  obtain ⟨n,hn,rfl,a5,hk⟩:=hrel;by_cases O:n<l.length
  ·have J:n<m.length:=by rw[←HL.out];exact O
   obtain ⟨us,bk,a6,a8⟩:=HA.out.keep hk;obtain ⟨b,o,rfl,_,hb,hc⟩:=a6.open' (by omega) (by omega);obtain ⟨bm,bj,a3,a9⟩:=HB.out.keep hk;obtain ⟨b2,o2,rfl,_,bl,a1⟩:=a3.open' (by omega) (by omega);have d1:=hc n _ (FA (by omega));have e1:=a1 n _ (FA (by omega));obtain ⟨Ar,cr,aA,bb,ad⟩:=a8 n (by omega) O;obtain ⟨Br,dr,av,ba,a4⟩:=a9 n (by omega) J;rw[aA] at d1;rw[av] at e1;have HH:=Fx (sf l[n] m[n] Ar Br cr dr wr ad a4 (be.out _ (FE O)) (bc.out _ (FE J)));have bo:(n:Int)<(m.length:Int):=by omega
   have U:l.take (n+1)=l.take n++[l[n]]:=List.take_succ_eq_append_getElem O;have N:m.take (n+1)=m.take n++[m[n]]:=List.take_succ_eq_append_getElem J;have M:l[n]≠m[n]→decide (l=m)=false:=fun h=>by
    rw[decide_eq_false_iff_not];rintro rfl;exact h rfl
   clear aA av bb ba ad a4 a6 a8 a3 a9 hc a1;generalize l[n]=x at *;generalize m[n]=y at *;by_cases I:x=y
   ·have hno':Hid (l.take (n+1)=m.take (n+1)):=Fx (by rw[U,N,a5.out,I])
    rw[decide_eq_true I] at HH;clear U N M I;go_wp2_with fail
    refine HH.out.mono ?_;rintro e W2 ⟨rfl,Z⟩;go_wp2;go_roundw
    case rel=>exact ⟨n+1,by omega,by go_num,hno',hk.trans Z⟩
    case measure=>simp[intOf];omega
   have HD:=Fx (M I);rw[decide_eq_false I] at HH;clear U N M I;go_wp2_with fail
   refine HH.out.mono ?_;rintro e W2 ⟨rfl,Z⟩;go_wp2;go_ret;exact ⟨by rw[HD.out];rfl,hk.trans Z⟩
  have a7:Hid (decide (l=m)=true):=Fx (by
   have h:=a5.out;rw[List.take_of_length_le (by omega),List.take_of_length_le (by rw[←HL.out];omega)] at h;exact decide_eq_true h)
  go_wp2;go_ret;exact ⟨by rw[a7.out];rfl,hk⟩
 have t1:((l.length:Int) != (m.length:Int))=true:=by rw[bne_iff_ne];omega
 have t2:(l.length != m.length)=true:=by rw[bne_iff_ne];exact D
 have HD:Hid (decide (l=m)=false):=Fx (by rw[decide_eq_false_iff_not];rintro rfl;exact D rfl);clear D;go_enter Tryz.func25,Tryz.ntmps25
 go_wp2;go_ret;exact ⟨by rw[HD.out];rfl,FK _ _⟩
structure nz (w:World) (t:Tb) (A B:Option Addr):Prop where
 cols:Rd w [] 2 A t.cols.length (ai t.cols)
 rows:cM w [] B t.rows
 ln:t.cols.length≤4294967296
 lm:t.rows.length≤4294967296
 lr:∀ r∈t.rows,r.length≤4294967296
theorem nz.quiet {w w':World} {t:Tb} {A B:Option Addr} (h:nz w t A B) (D:aa [] w w'):nz w' t A B:=⟨h.cols.keep D,h.rows.keep D,h.ln,h.lm,h.lr⟩
theorem zz (t u:Tb) (A B N I:Option Addr) (c d c2 M:Nat) (w:World) (J:nz w t A B) (D:nz w u N I) :
  Calls Tryz.prog 12 #[jP A t.cols.length c B t.rows.length d,jP N u.cols.length c2 I u.rows.length M] w fun e w'=>e=FP (.bool (decide (t=u)))∧aa [] w w':=by
 show Calls _ _ #[.agg #[FN A t.cols.length c,FN B t.rows.length d],.agg #[FN N u.cols.length c2,FN I u.rows.length M]] w _;have hd:decide (t=u)=(decide (t.cols=u.cols)&&decide (t.rows=u.rows)):=by
  obtain ⟨a,b⟩:=t;obtain ⟨a2,b2⟩:=u;rw[Bool.eq_iff_iff];simp
 rw[hd];have Z:=fun W (q:aa [] w W)=>kh t.cols u.cols A N c c2 W (J.quiet q).cols (D.quiet q).cols J.ln D.ln
 have U:=fun W (q:aa [] w W)=>pN t.rows u.rows B I d M W (J.quiet q).rows (D.quiet q).rows J.lm D.lm J.lr D.lr
 have HC:=Fx Z;have HR:=Fx U;clear Z U hd;generalize decide (t.cols=u.cols)=P at *;generalize decide (t.rows=u.rows)=Q at *
 cases P with
 | false =>
  go_enter Tryz.func12,Tryz.ntmps12
  go_wp2_with (go_at_call 14;refine (HC.out _ (((FK _ _).alloc _).alloc _)).mono ?_;rintro e W2 ⟨rfl,h⟩)
  go_ret;exact ⟨rfl,(((FK _ _).alloc _).alloc _).trans h⟩
 | true =>
  go_enter Tryz.func12,Tryz.ntmps12
  go_wp2_with (go_at_call 14;refine (HC.out _ (((FK _ _).alloc _).alloc _)).mono ?_;rintro e W2 ⟨rfl,h⟩;have q1:=h.cell_of (p:=⟨w.heap.size,1,none⟩) (v:=FN B t.rows.length d) (by simp) (by simp);have q2:=h.cell_of (p:=⟨w.heap.size+1,1,none⟩) (v:=FN I u.rows.length M) (by simp) (by simp))
  refine (HR.out _ ((((FK _ _).alloc _).alloc _).trans h)).mono ?_;rintro e W3 ⟨rfl,O⟩;go_wp2;go_ret;exact ⟨rfl,((((FK _ _).alloc _).alloc _).trans h).trans O⟩
end
section
open Go.RowKit Go.BigFrame
attribute [local go_sem] ag ab ae af KW.cell
theorem jz {α:Type} {l:List α} {i:Nat} (h:i<l.length):l.drop i=l[i]::l.drop (i+1):=List.drop_eq_getElem_cons h
theorem lC {α:Type} {l:List α} {i:Nat} (h:i<l.length):l.take (i+1)=l.take i++[l[i]]:=by rw[List.take_add_one,FA h];rfl
theorem gC (y:World) (G:Nat) (rest:List Value) (n c:Nat) (hn:n≤1000000) (cv:Value) (P A M B Q:List SR) (ba:B.length=A.length) (a7:P.length+A.length+M.length+B.length+Q.length=n) (a b k:Nat) (ha:a=P.length) (J:b=P.length+A.length+M.length) (hk:k=A.length) (w:World) (h:aH y G rest (P++(A++(M++(B++Q)))) w) :
  Calls Tryz.prog 203 #[FN (some ⟨G,0,none⟩) n c,FR FS (a:Int),FR FS (b:Int),FR FS (k:Int),cv] w fun e w'=>e=FP (.tuple #[])∧aH y G rest (P++(B++(M++(A++Q)))) w':=by
 have HS:=Fx h;clear h;go_enter Tryz.func203,Tryz.ntmps203
 go_wp2_with fail
 go_loopw [10] (fun v wr=>∃ i:Nat,i≤k∧v=FR FS (i:Int)∧Hid (aH y G rest (P++(B.take i++(A.drop i++(M++(A.take i++(B.drop i++Q)))))) wr)) (fun v _=>k-(intOf v).toNat)
 case atStart=>exact ⟨0,FF _,rfl,by simpa using HS⟩
 obtain ⟨i,hi,rfl,HI⟩:=hrel;by_cases co:i<k
 ·have a8:(i:Int)<(k:Int):=by omega
  have a5:i<A.length:=by omega
  have a3:i<B.length:=by omega
  obtain ⟨xa,a2⟩:∃ x,A[i]=x:=⟨_,rfl⟩
  obtain ⟨xb,a4⟩:∃ x,B[i]=x:=⟨_,rfl⟩
  obtain ⟨p,hp⟩:∃ p:Nat,a+i=p:=⟨_,rfl⟩
  obtain ⟨q,hq⟩:∃ q:Nat,b+i=q:=⟨_,rfl⟩
  have cq:(p:Int)<(n:Int):=by omega
  have cm:(q:Int)<(n:Int):=by omega
  have cn:IntKind.i64.wrap ((a:Int)+(i:Int))=(p:Int):=by simp[IntKind.wrap,IntKind.bits,IntKind.signed];omega
  have cj:IntKind.i64.wrap ((b:Int)+(i:Int))=(q:Int):=by simp[IntKind.wrap,IntKind.bits,IntKind.signed];omega
  have eX:P++(B.take i++(A.drop i++(M++(A.take i++(B.drop i++Q)))))=(P++B.take i)++xa::((A.drop (i+1)++(M++A.take i))++xb::(B.drop (i+1)++Q)):=by
   rw[jz a5,jz a3,a2,a4];simp
  have eY:P++(B.take (i+1)++(A.drop (i+1)++(M++(A.take (i+1)++(B.drop (i+1)++Q)))))=(P++B.take i)++xb::((A.drop (i+1)++(M++A.take i))++xa::(B.drop (i+1)++Q)):=by
   rw[lC a5,lC a3,a2,a4];simp
  have aA:p=(P++B.take i).length:=by rw[Fz,FH];omega
  have av:q=(P++B.take i).length+1+(A.drop (i+1)++(M++A.take i)).length:=by
   simp only[Fz,FH,List.length_drop];omega
  rw[eX] at HI;obtain ⟨X,hX⟩:∃ X,P++B.take i=X:=⟨_,rfl⟩
  obtain ⟨Y,hY⟩:∃ X,A.drop (i+1)++(M++A.take i)=X:=⟨_,rfl⟩
  obtain ⟨Z,hZ⟩:∃ X,B.drop (i+1)++Q=X:=⟨_,rfl⟩
  rw[hX,hY,hZ] at HI;have bo:Hid (∀ wx,aH y G rest (X++xb::(Y++xa::Z)) wx→aH y G rest (P++(B.take (i+1)++(A.drop (i+1)++(M++(A.take (i+1)++(B.drop (i+1)++Q)))))) wx):=Fx (fun wx h=>by
   rw[eY,hX,hY,hZ];exact h)
  have cr:IntKind.i64.wrap ((i:Int)+1)=(i:Int)+1:=by simp[IntKind.wrap,IntKind.bits,IntKind.signed];omega
  rw[hX] at aA av;rw[hY] at av;have HB:=Fx HI.out.b;have a9:Hid ((bg (X++xa::(Y++xb::Z)) rest)[p]? = some (FN xa.A xa.n xa.c)):=Fx (qI X _ xa rest aA);have a6:Hid ((bg (X++xa::(Y++xb::Z)) rest)[q]? = some (FN xb.A xb.n xb.c)):=Fx (oS X Y Z xa xb rest av);have bc:Hid (p≠q):=Fx (by omega);have bz:=Fx (wF X Y Z xa xb rest aA av);clear eX eY hX hY hZ aA av a2 a4 hp hq a5 a3 ba a7 ha J;go_upto_block 1 with (fail)
  go_cut [] (fun wx=>Hid (aH y G rest (X++xb::(Y++xa::Z)) wx))
  case first =>
   rename_i J1 K1 b5 ce;go_upto_region 3 with (fail)
   refine eu (by kernel_rfl) (by kernel_rfl) (by kernel_rfl) (fun (_:Unit) ix=>([FN (some ⟨G,0,none⟩) n c,FR FS (a:Int),FR FS (i:Int),FR FS (p:Int),FN (some ⟨G,0,none⟩) n c,FR FS (b:Int),FR FS (i:Int),FR FS (q:Int),FN (some ⟨G,0,none⟩) n c,FR FS (b:Int),FR FS (i:Int),FR FS (q:Int),FO (some ⟨G,q,none⟩),FN xb.A xb.n xb.c,FN (some ⟨G,0,none⟩) n c,FR FS (a:Int),FR FS (i:Int),FR FS (p:Int),FO (some ⟨G,p,none⟩),FN xa.A xa.n xa.c,FO (some ⟨G,p,none⟩),undef,FO (some ⟨G,q,none⟩),undef]:List Value).getD ix undef) (fun (_:Unit) L w'=>oR wr G 89 (bg (X++xa::(Y++xb::Z)) rest) p q (FN xb.A xb.n xb.c) (FN xa.A xa.n xa.c) 13 19 21 23 L w') ⟨(),oR.start HB.out⟩ ?_ ?_
   ·show oQ _ 24
    refine ⟨⟨⟨⟨⟨⟨⟨⟨⟨⟨⟨⟨⟨⟨⟨⟨⟨⟨⟨⟨⟨⟨⟨⟨trivial,?_⟩,?_⟩,?_⟩,?_⟩,?_⟩,?_⟩,?_⟩,?_⟩,?_⟩,?_⟩,?_⟩,?_⟩,?_⟩,?_⟩,?_⟩,?_⟩,?_⟩,?_⟩,?_⟩,?_⟩,?_⟩,?_⟩,?_⟩,?_⟩
    ·intro J g L U w1 hL N D I
     have e0:U.tmps.getD 0 undef=FN (some ⟨G,0,none⟩) n c:=D.old 0 (by kernel_rfl);have O:=I.far (k:=0) (by decide) (by decide);refine am (g:=g) rfl J rfl D (by exact O) ?_;show (execOp _ _).run _ _=Result.ok (.value (FN (some ⟨G,0,none⟩) n c)) _;clear O D N J I;simp only[execOp,Act.eval,e0];go_simp
    ·intro J g L U w1 hL N D I
     have e1:U.tmps.getD 1 undef=FR FS (a:Int):=D.old 1 (by kernel_rfl);have O:=I.far (k:=1) (by decide) (by decide);refine am (g:=g) rfl J rfl D (by exact O) ?_;show (execOp _ _).run _ _=Result.ok (.value (FR FS (a:Int))) _;clear O D N J I;simp only[execOp,Act.eval,e1];go_simp
    ·intro J g L U w1 hL N D I
     have ad:U.tmps.getD 10 undef=FR FS (i:Int):=D.old 10 (by kernel_rfl);have O:=I.far (k:=2) (by decide) (by decide);refine am (g:=g) rfl J rfl D (by exact O) ?_;show (execOp _ _).run _ _=Result.ok (.value (FR FS (i:Int))) _;clear O D N J I;simp only[execOp,Act.eval,ad];go_simp
    ·intro J g L U w1 hL N D I
     have b3:U.tmps.getD 17 undef=FR FS (a:Int):=D.y 1 _ 17 rfl rfl (N 1 (by kernel_rfl));have bk:U.tmps.getD 18 undef=FR FS (i:Int):=D.y 2 _ 18 rfl rfl (N 2 (by kernel_rfl));have O:=I.far (k:=3) (by decide) (by decide);refine am (g:=g) rfl J rfl D (by exact O) ?_;show (execOp _ _).run _ _=Result.ok (.value (FR FS (p:Int))) _;clear O D N J I;simp only[execOp,Act.eval,b3,bk];go_simp
    ·intro J g L U w1 hL N D I
     have e0:U.tmps.getD 0 undef=FN (some ⟨G,0,none⟩) n c:=D.old 0 (by kernel_rfl);have O:=I.far (k:=4) (by decide) (by decide);refine am (g:=g) rfl J rfl D (by exact O) ?_;show (execOp _ _).run _ _=Result.ok (.value (FN (some ⟨G,0,none⟩) n c)) _;clear O D N J I;simp only[execOp,Act.eval,e0];go_simp
    ·intro J g L U w1 hL N D I
     have e2:U.tmps.getD 2 undef=FR FS (b:Int):=D.old 2 (by kernel_rfl);have O:=I.far (k:=5) (by decide) (by decide);refine am (g:=g) rfl J rfl D (by exact O) ?_;show (execOp _ _).run _ _=Result.ok (.value (FR FS (b:Int))) _;clear O D N J I;simp only[execOp,Act.eval,e2];go_simp
    ·intro J g L U w1 hL N D I
     have ad:U.tmps.getD 10 undef=FR FS (i:Int):=D.old 10 (by kernel_rfl);have O:=I.far (k:=6) (by decide) (by decide);refine am (g:=g) rfl J rfl D (by exact O) ?_;show (execOp _ _).run _ _=Result.ok (.value (FR FS (i:Int))) _;clear O D N J I;simp only[execOp,Act.eval,ad];go_simp
    ·intro J g L U w1 hL N D I
     have ci:U.tmps.getD 21 undef=FR FS (b:Int):=D.y 5 _ 21 rfl rfl (N 5 (by kernel_rfl));have bj:U.tmps.getD 22 undef=FR FS (i:Int):=D.y 6 _ 22 rfl rfl (N 6 (by kernel_rfl));have O:=I.far (k:=7) (by decide) (by decide);refine am (g:=g) rfl J rfl D (by exact O) ?_;show (execOp _ _).run _ _=Result.ok (.value (FR FS (q:Int))) _;clear O D N J I;simp only[execOp,Act.eval,ci,bj];go_simp
    ·intro J g L U w1 hL N D I
     have e0:U.tmps.getD 0 undef=FN (some ⟨G,0,none⟩) n c:=D.old 0 (by kernel_rfl);have O:=I.far (k:=8) (by decide) (by decide);refine am (g:=g) rfl J rfl D (by exact O) ?_;show (execOp _ _).run _ _=Result.ok (.value (FN (some ⟨G,0,none⟩) n c)) _;clear O D N J I;simp only[execOp,Act.eval,e0];go_simp
    ·intro J g L U w1 hL N D I
     have e2:U.tmps.getD 2 undef=FR FS (b:Int):=D.old 2 (by kernel_rfl);have O:=I.far (k:=9) (by decide) (by decide);refine am (g:=g) rfl J rfl D (by exact O) ?_;show (execOp _ _).run _ _=Result.ok (.value (FR FS (b:Int))) _;clear O D N J I;simp only[execOp,Act.eval,e2];go_simp
    ·intro J g L U w1 hL N D I
     have ad:U.tmps.getD 10 undef=FR FS (i:Int):=D.old 10 (by kernel_rfl);have O:=I.far (k:=10) (by decide) (by decide);refine am (g:=g) rfl J rfl D (by exact O) ?_;show (execOp _ _).run _ _=Result.ok (.value (FR FS (i:Int))) _;clear O D N J I;simp only[execOp,Act.eval,ad];go_simp
    ·intro J g L U w1 hL N D I
     have ch:U.tmps.getD 25 undef=FR FS (b:Int):=D.y 9 _ 25 rfl rfl (N 9 (by kernel_rfl));have bm:U.tmps.getD 26 undef=FR FS (i:Int):=D.y 10 _ 26 rfl rfl (N 10 (by kernel_rfl));have O:=I.far (k:=11) (by decide) (by decide);refine am (g:=g) rfl J rfl D (by exact O) ?_;show (execOp _ _).run _ _=Result.ok (.value (FR FS (q:Int))) _;clear O D N J I;simp only[execOp,Act.eval,ch,bm];go_simp
    ·intro J g L U w1 hL N D I
     have be:U.tmps.getD 24 undef=FN (some ⟨G,0,none⟩) n c:=D.y 8 _ 24 rfl rfl (N 8 (by kernel_rfl));have bq:U.tmps.getD 27 undef=FR FS (q:Int):=D.y 11 _ 27 rfl rfl (N 11 (by kernel_rfl));have O:=I.far (k:=12) (by decide) (by decide);refine am (g:=g) rfl J rfl D (by exact O) ?_;show (execOp _ _).run _ _=Result.ok (.value (FO (some ⟨G,q,none⟩))) _;clear O D N J I;simp only[execOp,Act.eval,be,bq];go_simp
    ·intro J g L U w1 hL N D I
     have bX:U.tmps.getD 28 undef=FO (some ⟨G,q,none⟩):=D.y 12 _ 28 rfl rfl (N 12 (by kernel_rfl));have O:=I.far (k:=13) (by decide) (by decide);obtain ⟨kk,bb⟩:=I.ld1 hL;have x1:w1.cell? ⟨G,q,none⟩=some (FN xb.A xb.n xb.c):=(bb.cell _).trans a6.out;clear kk bb;refine am (g:=g) rfl J rfl D (by exact O) ?_;show (execOp _ _).run _ _=Result.ok (.value (FN xb.A xb.n xb.c)) _;clear O D N J I;simp only[execOp,Act.eval,bX];go_simp
    ·intro J g L U w1 hL N D I
     have e0:U.tmps.getD 0 undef=FN (some ⟨G,0,none⟩) n c:=D.old 0 (by kernel_rfl);have O:=I.far (k:=14) (by decide) (by decide);refine am (g:=g) rfl J rfl D (by exact O) ?_;show (execOp _ _).run _ _=Result.ok (.value (FN (some ⟨G,0,none⟩) n c)) _;clear O D N J I;simp only[execOp,Act.eval,e0];go_simp
    ·intro J g L U w1 hL N D I
     have e1:U.tmps.getD 1 undef=FR FS (a:Int):=D.old 1 (by kernel_rfl);have O:=I.far (k:=15) (by decide) (by decide);refine am (g:=g) rfl J rfl D (by exact O) ?_;show (execOp _ _).run _ _=Result.ok (.value (FR FS (a:Int))) _;clear O D N J I;simp only[execOp,Act.eval,e1];go_simp
    ·intro J g L U w1 hL N D I
     have ad:U.tmps.getD 10 undef=FR FS (i:Int):=D.old 10 (by kernel_rfl);have O:=I.far (k:=16) (by decide) (by decide);refine am (g:=g) rfl J rfl D (by exact O) ?_;show (execOp _ _).run _ _=Result.ok (.value (FR FS (i:Int))) _;clear O D N J I;simp only[execOp,Act.eval,ad];go_simp
    ·intro J g L U w1 hL N D I
     have b8:U.tmps.getD 31 undef=FR FS (a:Int):=D.y 15 _ 31 rfl rfl (N 15 (by kernel_rfl));have bZ:U.tmps.getD 32 undef=FR FS (i:Int):=D.y 16 _ 32 rfl rfl (N 16 (by kernel_rfl));have O:=I.far (k:=17) (by decide) (by decide);refine am (g:=g) rfl J rfl D (by exact O) ?_;show (execOp _ _).run _ _=Result.ok (.value (FR FS (p:Int))) _;clear O D N J I;simp only[execOp,Act.eval,b8,bZ];go_simp
    ·intro J g L U w1 hL N D I
     have br:U.tmps.getD 30 undef=FN (some ⟨G,0,none⟩) n c:=D.y 14 _ 30 rfl rfl (N 14 (by kernel_rfl));have b6:U.tmps.getD 33 undef=FR FS (p:Int):=D.y 17 _ 33 rfl rfl (N 17 (by kernel_rfl));have O:=I.far (k:=18) (by decide) (by decide);refine am (g:=g) rfl J rfl D (by exact O) ?_;show (execOp _ _).run _ _=Result.ok (.value (FO (some ⟨G,p,none⟩))) _;clear O D N J I;simp only[execOp,Act.eval,br,b6];go_simp
    ·intro J g L U w1 hL N D I
     have b9:U.tmps.getD 34 undef=FO (some ⟨G,p,none⟩):=D.y 18 _ 34 rfl rfl (N 18 (by kernel_rfl));have O:=I.far (k:=19) (by decide) (by decide);obtain ⟨kk,bb⟩:=I.ld2 hL;have x1:w1.cell? ⟨G,p,none⟩=some (FN xa.A xa.n xa.c):=(bb.cell _).trans a9.out;clear kk bb;refine am (g:=g) rfl J rfl D (by exact O) ?_;show (execOp _ _).run _ _=Result.ok (.value (FN xa.A xa.n xa.c)) _;clear O D N J I;simp only[execOp,Act.eval,b9];go_simp
    ·intro J g L U w1 hL N D I
     have cd:U.tmps.getD 16 undef=FN (some ⟨G,0,none⟩) n c:=D.y 0 _ 16 rfl rfl (N 0 (by kernel_rfl));have b0:U.tmps.getD 19 undef=FR FS (p:Int):=D.y 3 _ 19 rfl rfl (N 3 (by kernel_rfl));have O:=I.far (k:=20) (by decide) (by decide);refine am (g:=g) rfl J rfl D (by exact O) ?_;show (execOp _ _).run _ _=Result.ok (.value (FO (some ⟨G,p,none⟩))) _;clear O D N J I;simp only[execOp,Act.eval,cd,b0];go_simp
    ·intro J g L U w1 hL N D I
     have b4:U.tmps.getD 36 undef=FO (some ⟨G,p,none⟩):=D.y 20 _ 36 rfl rfl (N 20 (by kernel_rfl));have b7:U.tmps.getD 29 undef=FN xb.A xb.n xb.c:=D.y 13 _ 29 rfl rfl (N 13 (by kernel_rfl));obtain ⟨kk,bb⟩:=I.p0 hL;have x1:w1.cell? ⟨G,p,none⟩=some (FN xa.A xa.n xa.c):=(bb.cell _).trans a9.out;have x2:w1.frozen? ⟨G,p,none⟩=false:=bb.frozen _;refine dR (w':=w1.setCell ⟨G,p,none⟩ (FN xb.A xb.n xb.c)) rfl rfl ?_ ⟨g,D.put J rfl,I.b1 hL (N 13 (by kernel_rfl)) (N 19 (by kernel_rfl)) (by decide)⟩;clear D N J I kk bb;simp only[execOp,Act.eval,b4,b7];go_simp
    ·intro J g L U w1 hL N D I
     have bl:U.tmps.getD 20 undef=FN (some ⟨G,0,none⟩) n c:=D.y 4 _ 20 rfl rfl (N 4 (by kernel_rfl));have bv:U.tmps.getD 23 undef=FR FS (q:Int):=D.y 7 _ 23 rfl rfl (N 7 (by kernel_rfl));have O:=I.far (k:=22) (by decide) (by decide);refine am (g:=g) rfl J rfl D (by exact O) ?_;show (execOp _ _).run _ _=Result.ok (.value (FO (some ⟨G,q,none⟩))) _;clear O D N J I;simp only[execOp,Act.eval,bl,bv];go_simp
    intro J g L U w1 hL N D I;have ca:U.tmps.getD 37 undef=FO (some ⟨G,q,none⟩):=D.y 22 _ 37 rfl rfl (N 22 (by kernel_rfl));have cg:U.tmps.getD 35 undef=FN xa.A xa.n xa.c:=D.y 19 _ 35 rfl rfl (N 19 (by kernel_rfl));have h1:=N 21 (by kernel_rfl);obtain ⟨kk,bb⟩:=I.p1 h1 hL;have x1:w1.cell? ⟨G,q,none⟩=some (FN xb.A xb.n xb.c):=(bb.cell _).trans (by rw[Array.getElem?_setIfInBounds,if_neg bc.out];exact a6.out);have x2:w1.frozen? ⟨G,q,none⟩=false:=bb.frozen _;refine dR (w':=w1.setCell ⟨G,q,none⟩ (FN xa.A xa.n xa.c)) rfl rfl ?_ ⟨g,D.put J rfl,I.b2 hL h1 (by decide)⟩;clear D N J I kk bb;simp only[execOp,Act.eval,ca,cg];go_simp
   intro g L w' a0 I
   (try simp only[Exit.inBlock,Exit.then])
   refine ce _ _ (Met.intro (b5 _ _ ?_));repeat apply Exists.intro
   exact ⟨Fx ⟨HI.out.k.trans (I.p2 (a0 23 (by decide))).1,(I.p2 (a0 23 (by decide))).2.congr bz.out⟩,rfl⟩
  have HN:=Fx (bo.out _ hcut.out);obtain ⟨y4,rfl⟩:∃ z:World,z=wc:=⟨_,rfl⟩
  clear hcut;go_wp2;go_roundw
  case rel=>exact ⟨i+1,by omega,by go_num,HN⟩
  case measure=>simp[intOf];omega
 have a8:¬(i:Int)<(k:Int):=by omega
 have HF:Hid (aH y G rest (P++(B++(M++(A++Q)))) wr):=Fx (by
  have h:=HI.out;rw[List.take_of_length_le (by omega),List.take_of_length_le (by omega),List.drop_of_length_le (by omega),List.drop_of_length_le (by omega)] at h;simpa using h)
 go_wp2;go_end0
 exact ⟨rfl,HF.out⟩
def bS (h:SR→SR→Int) (x z:SR):Bool:=!decide (h z x<0)
theorem nq {D:SR→SR→Int} {x z:SR} (h:¬D z x<0):bS D x z=true:=by unfold bS;rw[decide_eq_false h];rfl
theorem rQ {D:SR→SR→Int} {x z:SR} (h:D z x<0):bS D x z=false:=by unfold bS;rw[decide_eq_true h];rfl
structure tG (y:World) (G:Nat) (kf:Nat) (cap:Array Value) (ci:SR→SR→Int) (S:SR→Prop):Prop where
 he:∀ args w,(callFunc kf args).run Tryz.prog w= .ok (.enter kf args) w
 ord:iX (bS ci)
 c:∀ x z,S x→S z→∀ W,aa [G] y W→Calls Tryz.prog kf (#[x.v,z.v]++cap) W fun e W'=>e=FP (FR FS (ci x z))∧aa [] W W'
theorem aH.at {y:World} {G:Nat} {rest:List Value} {X Y:List SR} {x:SR} {w:World} (h:aH y G rest (X++x::Y) w) {i:Nat} (D:i=X.length):w.cell? ⟨G,i,none⟩=some (FN x.A x.n x.c):=(h.b.cell i).trans (qI X Y x rest D)
theorem aH.keep {y:World} {G:Nat} {rest:List Value} {l:List SR} {w w':World} (h:aH y G rest l w) (D:aa [] w w'):aH y G rest l w':=⟨h.k.trans D.of_nil,h.b.keep D (by simp)⟩
theorem ka (y:World) (G:Nat) (rest:List Value) (n c:Nat) (hn:n≤1000000) (kf:Nat) (cap:Array Value) (ci:SR→SR→Int) (S:SR→Prop) (hC:tG y G kf cap ci S) (P A Q:List SR) (hS:∀ x∈A,S x) (a7:P.length+A.length+Q.length=n) (a b:Nat) (ha:a=P.length) (J:b=P.length+A.length) (w:World) (h:aH y G rest (P++(A++Q)) w) :
  Calls Tryz.prog 185 #[FN (some ⟨G,0,none⟩) n c,FR FS (a:Int),FR FS (b:Int),.func (.func kf) #[] cap] w fun e w'=>e=FP (.tuple #[])∧aH y G rest (P++(eh (bS ci) A++Q)) w':=by
 have HS:=Fx h;have bo:=Fx hS;have HC:=Fx hC;have he:=hC.he;have b6:IntKind.i64.wrap ((a:Int)+1)=((a+1:Nat):Int):=by simp[IntKind.wrap,IntKind.bits,IntKind.signed];omega
 have av:a=P.length∧b=P.length+A.length∧P.length+A.length+Q.length=n:=⟨ha,J,a7⟩;have co:=Fx av;clear h hS hC av ha J a7;go_enter Tryz.func185,Tryz.ntmps185
 go_wp2_with fail
 clear b6;go_loopw [8] (fun v wr=>∃ i t:Nat,v=FR FS (i:Int)∧i=a+t∧1≤t∧(t≤A.length∨t=1)∧Hid (aH y G rest (P++(eh (bS ci) (A.take t)++(A.drop t++Q))) wr)) (fun v _=>b-(intOf v).toNat)
 case atStart =>
  refine ⟨a+1,1,rfl,rfl,Fy _,.inr rfl,Fx ?_⟩;have e:eh (bS ci) (A.take 1)=A.take 1:=by
   cases A with
   | nil=>rfl
   | cons x l=>simp[eh,mg]
  rw[e,←List.append_assoc (A.take 1),List.take_append_drop];exact HS.out
 obtain ⟨i,t,rfl,be,cq,ht,HI⟩:=hrel;have av:=co.out;by_cases dq:i<b
 ·have bl:(i:Int)<(b:Int):=by omega
  have a4:t<A.length:=by omega
  obtain ⟨N,a3⟩:∃ x,A[t]=x:=⟨_,rfl⟩
  have cn:i<n:=by omega
  have dt:IntKind.i64.wrap ((i:Int)+1)=(i:Int)+1:=by simp[IntKind.wrap,IntKind.bits,IntKind.signed];omega
  obtain ⟨L,hL⟩:∃ L,eh (bS ci) (A.take t)=L:=⟨_,rfl⟩
  obtain ⟨R,hR⟩:∃ R,A.drop (t+1)++Q=R:=⟨_,rfl⟩
  have ca:L.length=t:=by rw[←hL,bJ,FH];omega
  have bZ:Hid (lM (bS ci) L):=Fx (by rw[←hL];exact kT HC.out.ord _);have b9:Hid (∀ x∈L,S x):=Fx (fun x hx=>by
   rw[←hL] at hx;exact bo.out x (List.mem_of_mem_take ((gK _).mem_iff.1 hx)))
  have c0:Hid (S N):=Fx (by rw[←a3];exact bo.out _ (FE a4));have a5:Hid (∀ L1 L2 wx,L1++L2=L→(∀ x∈L1,bS ci x N=true)→(∀ x∈L2,bS ci x N=false)→aH y G rest (P++(L1++(N::(L2++R)))) wx→aH y G rest (P++(eh (bS ci) (A.take (t+1))++(A.drop (t+1)++Q))) wx):=Fx (fun L1 L2 wx e h1 h2 h=>by
   rw[lC a4,a3,gJ,hL,←e,zH h1 h2,hR];simpa using h)
  rw[jz a4,a3,hL] at HI;have cr:Hid (aH y G rest (P++(L++(N::([]++R)))) wr):=Fx (by
   have h:=HI.out;rw[←hR];simpa using h)
  have bj:a=P.length:=av.1;have cy:=Fx (show i=a+L.length by omega);have c8:Hid (P.length+L.length+1+R.length=n):=Fx (by
   rw[←hR,Fz,List.length_drop];omega)
  have b7:=Fx bj;have cm:Hid (∀ wx,aH y G rest (P++(eh (bS ci) (A.take (t+1))++(A.drop (t+1)++Q))) wx→∃ i2 t2:Nat,(FR FS ((i:Int)+1):Value)=FR FS (i2:Int)∧i2=a+t2∧1≤t2∧(t2≤A.length∨t2=1)∧Hid (aH y G rest (P++(eh (bS ci) (A.take t2)++(A.drop t2++Q))) wx)):=Fx (fun wx h=>⟨i+1,t+1,by go_num,by omega,by omega,.inl (by omega),Fx h⟩);clear be cq ht a4 a3 hL hR ca av bj HI HS;go_upto_block 1 with (fail)
  go_cut [] (fun wx=>Hid (aH y G rest (P++(eh (bS ci) (A.take (t+1))++(A.drop (t+1)++Q))) wx))
  case first =>
   go_wp2_with fail
   go_loopw [9] (fun v wx=>∃ (L1 L2:List SR) (p:Nat),v=FR FS (p:Int)∧Hid (p=a+L1.length)∧p≤i∧Hid (L1++L2=L)∧Hid (∀ x∈L2,bS ci x N=false)∧Hid (aH y G rest (P++(L1++(N::(L2++R)))) wx)) (fun v _=>(intOf v).toNat)
   case atStart=>exact ⟨L,[],i,rfl,cy,Fy _,Fx (by simp),Fx (fun x hx=>by cases hx),cr⟩
   obtain ⟨L1,L2,p,rfl,HP,c6,HL,a8,HJ⟩:=hrel;obtain ⟨u,rfl⟩:∃ u:World,u=wr:=⟨_,rfl⟩
   have hin':=cn;rcases List.eq_nil_or_concat L1 with rfl|⟨ad,z,rfl⟩
   ·have b4:¬(p:Int)>(a:Int):=by
     have h:=HP.out;simp at h;omega
    go_upto_region 4 with (fail)
    refine ah (by kernel_rfl) (by kernel_rfl) ?_;repeat (go_big_quiet_step (fail))
    refine wpQuiet_nil ?_;intro wx kx;have HX:=Fx (a5.out [] L2 wx HL.out (fun x hx=>by cases hx) a8.out (HJ.out.keep kx));go_wp2;go_meet;exact HX
   rw[List.concat_eq_append] at HP HL HJ;obtain ⟨q,hq⟩:∃ q,a+ad.length=q:=⟨_,rfl⟩
   have hp:p=q+1:=by
    have h:=HP.out;rw[Fz] at h;simp at h;omega
   have b4:(p:Int)>(a:Int):=by omega
   have ds:(p:Int)<(n:Int):=by omega
   have dr:(q:Int)<(n:Int):=by omega
   have c9:IntKind.i64.wrap ((p:Int)-1)=(q:Int):=by simp[IntKind.wrap,IntKind.bits,IntKind.signed];omega
   have aA:Hid (aH y G rest ((P++ad)++z::([]++N::(L2++R))) u):=Fx (by
    have h:=HJ.out;simpa using h)
   have a0:Hid (q=(P++ad).length):=Fx (by rw[Fz,←b7.out];exact hq.symm);have a2:Hid (p=(P++ad).length+1+([]:List SR).length):=Fx (by rw[←a0.out];exact hp);have ba:z∈L:=by rw[←HL.out];simp
   obtain ⟨r,hr⟩:∃ r,ci N z=r:=⟨_,rfl⟩
   have br:Hid (∀ W,aa [] u W→Calls Tryz.prog kf (#[FN N.A N.n N.c,FN z.A z.n z.c]++cap) W fun e W'=>e=FP (FR FS r)∧aa [] W W'):=Fx (fun W k=>by
    rw[←hr];exact HC.out.c N z c0.out (b9.out z ba) W (aA.out.k.trans k.of_nil))
   have x1:u.cell? ⟨G,p,none⟩=some (FN N.A N.n N.c):=(aA.out.b.cell p).trans (oS _ _ _ _ _ _ a2.out);have x2:u.cell? ⟨G,q,none⟩=some (FN z.A z.n z.c):=aA.out.at a0.out;have lG:G<u.heap.size:=aA.out.b.lt;by_cases bc:r<0
   ·have HZ:Hid (bS ci z N=false):=Fx (rQ (by rw[hr];exact bc))
    have bm:Hid (∀ wx,aH y G rest ((P++ad)++N::([]++z::(L2++R))) wx→∃ (M1 M2:List SR) (p2:Nat),(FR FS (q:Int):Value)=FR FS (p2:Int)∧Hid (p2=a+M1.length)∧p2≤i∧Hid (M1++M2=L)∧Hid (∀ x∈M2,bS ci x N=false)∧Hid (aH y G rest (P++(M1++(N::(M2++R)))) wx)):=Fx (fun wx h=>by
     refine ⟨ad,z::L2,q,rfl,Fx hq.symm,by omega,Fx (by have:=HL.out;simpa using this),Fx (fun x hx=>?_),Fx (by simpa using h)⟩;rcases List.mem_cons.1 hx with rfl|hx
     ·exact HZ.out
     exact a8.out x hx)
    have c7:q<p:=by omega
    have b0:Hid (p≠q):=Fx (by omega);clear ba hr hp hq HJ hin';go_upto_region 4 with (fail)
    refine ah (by kernel_rfl) (by kernel_rfl) ?_;repeat (go_big_quiet_step (with_reducible exact KW.of br.out _))
    refine wpQuiet_nil ?_;intro wx kx;have a9:=Fx (aA.out.keep kx);obtain ⟨X,hX⟩:∃ X,P++ad=X:=⟨_,rfl⟩
    obtain ⟨Z,hZ⟩:∃ Z,L2++R=Z:=⟨_,rfl⟩
    rw[hX,hZ] at a9 bm;rw[hX] at a0 a2;have HB:=Fx a9.out.b;have bv:Hid ((bg (X++z::([]++N::Z)) rest)[q]? = some (FN z.A z.n z.c)):=Fx (qI X _ z rest a0.out);have bq:Hid ((bg (X++z::([]++N::Z)) rest)[p]? = some (FN N.A N.n N.c)):=Fx (oS X [] Z z N rest a2.out);have cg:=Fx (tE X [] Z z N rest a0.out a2.out);clear x1 x2 lG kx hX hZ;go_upto_block 3 with (fail)
    go_cut [] (fun wy=>Hid (aH y G rest (X++N::([]++z::Z)) wy))
    case first =>
     rename_i J1 K1 ct c5;go_upto_region 6 with (fail)
     refine eu (by kernel_rfl) (by kernel_rfl) (by kernel_rfl) (fun (_:Unit) ix=>([FN (some ⟨G,0,none⟩) n c,FR FS (p:Int),FN (some ⟨G,0,none⟩) n c,FR FS (p:Int),FR FS (q:Int),FN (some ⟨G,0,none⟩) n c,FR FS (p:Int),FR FS (q:Int),FO (some ⟨G,q,none⟩),FN z.A z.n z.c,FN (some ⟨G,0,none⟩) n c,FR FS (p:Int),FO (some ⟨G,p,none⟩),FN N.A N.n N.c,FO (some ⟨G,p,none⟩),undef,FO (some ⟨G,q,none⟩),undef]:List Value).getD ix undef) (fun (_:Unit) L w'=>oR wx G 89 (bg (X++z::([]++N::Z)) rest) p q (FN z.A z.n z.c) (FN N.A N.n N.c) 9 13 15 17 L w') ⟨(),oR.start HB.out⟩ ?_ ?_
     ·show oQ _ 18
      refine ⟨⟨⟨⟨⟨⟨⟨⟨⟨⟨⟨⟨⟨⟨⟨⟨⟨⟨trivial,?_⟩,?_⟩,?_⟩,?_⟩,?_⟩,?_⟩,?_⟩,?_⟩,?_⟩,?_⟩,?_⟩,?_⟩,?_⟩,?_⟩,?_⟩,?_⟩,?_⟩,?_⟩
      ·intro J g L U w1 hL M D I
       have e0:U.tmps.getD 0 undef=FN (some ⟨G,0,none⟩) n c:=D.old 0 (by kernel_rfl);have O:=I.far (k:=0) (by decide) (by decide);refine am (g:=g) rfl J rfl D (by exact O) ?_;show (execOp _ _).run _ _=Result.ok (.value (FN (some ⟨G,0,none⟩) n c)) _;clear O D M J I;simp only[execOp,Act.eval,e0];go_simp
      ·intro J g L U w1 hL M D I
       have e9:U.tmps.getD 9 undef=FR FS (p:Int):=D.old 9 (by kernel_rfl);have O:=I.far (k:=1) (by decide) (by decide);refine am (g:=g) rfl J rfl D (by exact O) ?_;show (execOp _ _).run _ _=Result.ok (.value (FR FS (p:Int))) _;clear O D M J I;simp only[execOp,Act.eval,e9];go_simp
      ·intro J g L U w1 hL M D I
       have e0:U.tmps.getD 0 undef=FN (some ⟨G,0,none⟩) n c:=D.old 0 (by kernel_rfl);have O:=I.far (k:=2) (by decide) (by decide);refine am (g:=g) rfl J rfl D (by exact O) ?_;show (execOp _ _).run _ _=Result.ok (.value (FN (some ⟨G,0,none⟩) n c)) _;clear O D M J I;simp only[execOp,Act.eval,e0];go_simp
      ·intro J g L U w1 hL M D I
       have e9:U.tmps.getD 9 undef=FR FS (p:Int):=D.old 9 (by kernel_rfl);have O:=I.far (k:=3) (by decide) (by decide);refine am (g:=g) rfl J rfl D (by exact O) ?_;show (execOp _ _).run _ _=Result.ok (.value (FR FS (p:Int))) _;clear O D M J I;simp only[execOp,Act.eval,e9];go_simp
      ·intro J g L U w1 hL M D I
       have b5:U.tmps.getD 40 undef=FR FS (p:Int):=D.y 3 _ 40 rfl rfl (M 3 (by kernel_rfl));have O:=I.far (k:=4) (by decide) (by decide);refine am (g:=g) rfl J rfl D (by exact O) ?_;show (execOp _ _).run _ _=Result.ok (.value (FR FS (q:Int))) _;clear O D M J I;simp only[execOp,Act.eval,b5];go_simp
      ·intro J g L U w1 hL M D I
       have e0:U.tmps.getD 0 undef=FN (some ⟨G,0,none⟩) n c:=D.old 0 (by kernel_rfl);have O:=I.far (k:=5) (by decide) (by decide);refine am (g:=g) rfl J rfl D (by exact O) ?_;show (execOp _ _).run _ _=Result.ok (.value (FN (some ⟨G,0,none⟩) n c)) _;clear O D M J I;simp only[execOp,Act.eval,e0];go_simp
      ·intro J g L U w1 hL M D I
       have e9:U.tmps.getD 9 undef=FR FS (p:Int):=D.old 9 (by kernel_rfl);have O:=I.far (k:=6) (by decide) (by decide);refine am (g:=g) rfl J rfl D (by exact O) ?_;show (execOp _ _).run _ _=Result.ok (.value (FR FS (p:Int))) _;clear O D M J I;simp only[execOp,Act.eval,e9];go_simp
      ·intro J g L U w1 hL M D I
       have cj:U.tmps.getD 43 undef=FR FS (p:Int):=D.y 6 _ 43 rfl rfl (M 6 (by kernel_rfl));have O:=I.far (k:=7) (by decide) (by decide);refine am (g:=g) rfl J rfl D (by exact O) ?_;show (execOp _ _).run _ _=Result.ok (.value (FR FS (q:Int))) _;clear O D M J I;simp only[execOp,Act.eval,cj];go_simp
      ·intro J g L U w1 hL M D I
       have bX:U.tmps.getD 42 undef=FN (some ⟨G,0,none⟩) n c:=D.y 5 _ 42 rfl rfl (M 5 (by kernel_rfl));have c3:U.tmps.getD 44 undef=FR FS (q:Int):=D.y 7 _ 44 rfl rfl (M 7 (by kernel_rfl));have O:=I.far (k:=8) (by decide) (by decide);refine am (g:=g) rfl J rfl D (by exact O) ?_;show (execOp _ _).run _ _=Result.ok (.value (FO (some ⟨G,q,none⟩))) _;clear O D M J I;simp only[execOp,Act.eval,bX,c3];go_simp
      ·intro J g L U w1 hL M D I
       have bz:U.tmps.getD 45 undef=FO (some ⟨G,q,none⟩):=D.y 8 _ 45 rfl rfl (M 8 (by kernel_rfl));have O:=I.far (k:=9) (by decide) (by decide);obtain ⟨kk,bb⟩:=I.ld1 hL;have x1:w1.cell? ⟨G,q,none⟩=some (FN z.A z.n z.c):=(bb.cell _).trans bv.out;clear kk bb;refine am (g:=g) rfl J rfl D (by exact O) ?_;show (execOp _ _).run _ _=Result.ok (.value (FN z.A z.n z.c)) _;clear O D M J I;simp only[execOp,Act.eval,bz];go_simp
      ·intro J g L U w1 hL M D I
       have e0:U.tmps.getD 0 undef=FN (some ⟨G,0,none⟩) n c:=D.old 0 (by kernel_rfl);have O:=I.far (k:=10) (by decide) (by decide);refine am (g:=g) rfl J rfl D (by exact O) ?_;show (execOp _ _).run _ _=Result.ok (.value (FN (some ⟨G,0,none⟩) n c)) _;clear O D M J I;simp only[execOp,Act.eval,e0];go_simp
      ·intro J g L U w1 hL M D I
       have e9:U.tmps.getD 9 undef=FR FS (p:Int):=D.old 9 (by kernel_rfl);have O:=I.far (k:=11) (by decide) (by decide);refine am (g:=g) rfl J rfl D (by exact O) ?_;show (execOp _ _).run _ _=Result.ok (.value (FR FS (p:Int))) _;clear O D M J I;simp only[execOp,Act.eval,e9];go_simp
      ·intro J g L U w1 hL M D I
       have cd:U.tmps.getD 47 undef=FN (some ⟨G,0,none⟩) n c:=D.y 10 _ 47 rfl rfl (M 10 (by kernel_rfl));have cz:U.tmps.getD 48 undef=FR FS (p:Int):=D.y 11 _ 48 rfl rfl (M 11 (by kernel_rfl));have O:=I.far (k:=12) (by decide) (by decide);refine am (g:=g) rfl J rfl D (by exact O) ?_;show (execOp _ _).run _ _=Result.ok (.value (FO (some ⟨G,p,none⟩))) _;clear O D M J I;simp only[execOp,Act.eval,cd,cz];go_simp
      ·intro J g L U w1 hL M D I
       have cu:U.tmps.getD 49 undef=FO (some ⟨G,p,none⟩):=D.y 12 _ 49 rfl rfl (M 12 (by kernel_rfl));have O:=I.far (k:=13) (by decide) (by decide);obtain ⟨kk,bb⟩:=I.ld2 hL;have x1:w1.cell? ⟨G,p,none⟩=some (FN N.A N.n N.c):=(bb.cell _).trans bq.out;clear kk bb;refine am (g:=g) rfl J rfl D (by exact O) ?_;show (execOp _ _).run _ _=Result.ok (.value (FN N.A N.n N.c)) _;clear O D M J I;simp only[execOp,Act.eval,cu];go_simp
      ·intro J g L U w1 hL M D I
       have c1:U.tmps.getD 37 undef=FN (some ⟨G,0,none⟩) n c:=D.y 0 _ 37 rfl rfl (M 0 (by kernel_rfl));have cv:U.tmps.getD 38 undef=FR FS (p:Int):=D.y 1 _ 38 rfl rfl (M 1 (by kernel_rfl));have O:=I.far (k:=14) (by decide) (by decide);refine am (g:=g) rfl J rfl D (by exact O) ?_;show (execOp _ _).run _ _=Result.ok (.value (FO (some ⟨G,p,none⟩))) _;clear O D M J I;simp only[execOp,Act.eval,c1,cv];go_simp
      ·intro J g L U w1 hL M D I
       have cx:U.tmps.getD 51 undef=FO (some ⟨G,p,none⟩):=D.y 14 _ 51 rfl rfl (M 14 (by kernel_rfl));have b8:U.tmps.getD 46 undef=FN z.A z.n z.c:=D.y 9 _ 46 rfl rfl (M 9 (by kernel_rfl));obtain ⟨kk,bb⟩:=I.p0 hL;have x1:w1.cell? ⟨G,p,none⟩=some (FN N.A N.n N.c):=(bb.cell _).trans bq.out;have x2:w1.frozen? ⟨G,p,none⟩=false:=bb.frozen _;refine dR (w':=w1.setCell ⟨G,p,none⟩ (FN z.A z.n z.c)) rfl rfl ?_ ⟨g,D.put J rfl,I.b1 hL (M 9 (by kernel_rfl)) (M 13 (by kernel_rfl)) (by decide)⟩;clear D M J I kk bb;simp only[execOp,Act.eval,cx,b8];go_simp
      ·intro J g L U w1 hL M D I
       have ce:U.tmps.getD 39 undef=FN (some ⟨G,0,none⟩) n c:=D.y 2 _ 39 rfl rfl (M 2 (by kernel_rfl));have ch:U.tmps.getD 41 undef=FR FS (q:Int):=D.y 4 _ 41 rfl rfl (M 4 (by kernel_rfl));have O:=I.far (k:=16) (by decide) (by decide);refine am (g:=g) rfl J rfl D (by exact O) ?_;show (execOp _ _).run _ _=Result.ok (.value (FO (some ⟨G,q,none⟩))) _;clear O D M J I;simp only[execOp,Act.eval,ce,ch];go_simp
      intro J g L U w1 hL M D I;have b3:U.tmps.getD 52 undef=FO (some ⟨G,q,none⟩):=D.y 16 _ 52 rfl rfl (M 16 (by kernel_rfl));have c4:U.tmps.getD 50 undef=FN N.A N.n N.c:=D.y 13 _ 50 rfl rfl (M 13 (by kernel_rfl));have h1:=M 15 (by kernel_rfl);obtain ⟨kk,bb⟩:=I.p1 h1 hL;have x1:w1.cell? ⟨G,q,none⟩=some (FN z.A z.n z.c):=(bb.cell _).trans (by rw[Array.getElem?_setIfInBounds,if_neg b0.out];exact bv.out);have x2:w1.frozen? ⟨G,q,none⟩=false:=bb.frozen _;refine dR (w':=w1.setCell ⟨G,q,none⟩ (FN N.A N.n N.c)) rfl rfl ?_ ⟨g,D.put J rfl,I.b2 hL h1 (by decide)⟩;clear D M J I kk bb;simp only[execOp,Act.eval,b3,c4];go_simp
     intro g L w' a6 I
     (try simp only[Exit.inBlock,Exit.then])
     refine c5 _ _ (Met.intro (ct _ _ ?_));repeat apply Exists.intro
     exact ⟨Fx ⟨a9.out.k.trans (I.p2 (a6 17 (by decide))).1,(I.p2 (a6 17 (by decide))).2.congr cg.out⟩,rfl⟩
    have HN:=Fx (bm.out _ hcut.out);obtain ⟨y4,rfl⟩:∃ z:World,z=wc:=⟨_,rfl⟩
    clear hcut;go_wp2;go_roundw
    case rel=>exact HN.out
    case measure=>simp[intOf];omega
   have HZ:Hid (bS ci z N=true):=Fx (nq (by rw[hr];exact bc));have bk:Hid (∀ x∈ad++[z],bS ci x N=true):=Fx (by
    have hs:lM (bS ci) (ad++[z]):=by
     have h:=bZ.out;rw[←HL.out] at h;exact (List.pairwise_append.1 h).1
    intro x hx;rcases List.mem_append.1 hx with hx|hx
    ·exact HC.out.ord.trans _ _ _ ((List.pairwise_append.1 hs).2.2 x hx z (by simp)) HZ.out
    obtain rfl:=List.mem_singleton.1 hx;exact HZ.out)
   clear ba hr hp hq hin';go_upto_region 4 with (fail)
   refine ah (by kernel_rfl) (by kernel_rfl) ?_;repeat (go_big_quiet_step (with_reducible exact KW.of br.out _))
   refine wpQuiet_nil ?_;intro wx kx;have HX:=Fx (a5.out (ad++[z]) L2 wx HL.out bk.out a8.out (HJ.out.keep kx));go_wp2;go_meet;exact HX
  have HN:=Fx (cm.out _ hcut.out);obtain ⟨y4,rfl⟩:∃ z:World,z=wc:=⟨_,rfl⟩
  clear hcut;go_wp2;go_roundw
  case rel=>exact HN.out
  case measure=>simp[intOf];omega
 have bl:¬(i:Int)<(b:Int):=by omega
 have HF:Hid (aH y G rest (P++(eh (bS ci) A++Q)) wr):=Fx (by
  have h:=HI.out;rw[List.take_of_length_le (by omega),List.drop_of_length_le (by omega)] at h;simpa using h)
 clear av be;go_wp2;go_end0
 exact ⟨rfl,HF.out⟩
theorem rR {α:Type} (P A Q:List α) {i k:Nat} (D:i=P.length+k) (h:k<A.length):(P++(A++Q))[i]? = some A[k]:=by
 subst D;rw[List.getElem?_append_right (by omega),Nat.add_sub_cancel_left,List.getElem?_append_left h,FA h]
theorem aH.get {y:World} {G:Nat} {rest:List Value} {l:List SR} {x:SR} {w:World} (h:aH y G rest l w) {i:Nat} (D:l[i]? = some x):w.cell? ⟨G,i,none⟩=some (FN x.A x.n x.c):=by
 refine (h.b.cell i).trans ?_;have I:=(List.getElem?_eq_some_iff.1 D).1;unfold bg;rw[List.getElem?_toArray,List.getElem?_append_left (by rw[List.length_map];exact I),List.getElem?_map,D];rfl
theorem lD (i j h:Nat) (M:i+j≤4000000) (J:(i+j) / 2=h):wrap64 (IntKind.u64.wrap ((i:Int)+(j:Int)) / 2)=(h:Int):=by
 have D:IntKind.u64.wrap ((i:Int)+(j:Int))=(i:Int)+(j:Int):=by
  rw[IntKind.wrap_u64];omega
 have I:((i:Int)+(j:Int)) / 2=(h:Int):=by omega
 rw[D,I];unfold wrap64;omega
theorem vA (y:World) (G:Nat) (rest:List Value) (n c:Nat) (hn:n≤1000000) (kf:Nat) (cap:Array Value) (ci:SR→SR→Int) (S:SR→Prop) (hC:tG y G kf cap ci S) (P:List SR) (x:SR) (B Q:List SR) (b9:S x) (hS:∀ z∈B,S z) (hB:0<B.length) (bz:lM (bS ci) B) (bj:P.length+1+B.length+Q.length=n) (a m b:Nat) (ha:a=P.length) (hm:m=P.length+1) (J:b=P.length+1+B.length) (w:World) (h:aH y G rest (P++(x::(B++Q))) w) :
  Calls Tryz.prog 186 #[FN (some ⟨G,0,none⟩) n c,FR FS (a:Int),FR FS (m:Int),FR FS (b:Int),.func (.func kf) #[] cap] w fun e w'=>e=FP (.tuple #[])∧aH y G rest (P++(mg (bS ci) [x] B++Q)) w':=by
 have HS:=Fx h;have cu:=Fx hS;have dr:=Fx b9;have b8:=Fx bz;have HC:=Fx hC;have he:=hC.he;have cm:IntKind.i64.wrap ((m:Int)-(a:Int))=1:=by simp[IntKind.wrap,IntKind.bits,IntKind.signed];omega
 have ad:a=P.length∧m=P.length+1∧b=P.length+1+B.length∧P.length+1+B.length+Q.length=n∧0<B.length:=⟨ha,hm,J,bj,hB⟩;have b7:=Fx ad;clear h hS hC ad ha J bj hm hB b9 bz;go_enter Tryz.func186,Tryz.ntmps186
 go_wp2_with fail
 clear cm;go_loopw [10,11] (fun vi vj wr=>∃ i j:Nat,vi=FR FS (i:Int)∧vj=FR FS (j:Int)∧m≤i∧i≤j∧j≤b∧Hid (∀ k,i=m+k+1→∀ hk:k<B.length,bS ci x B[k]=false)∧Hid (∀ k,j=m+k→∀ hk:k<B.length,bS ci x B[k]=true)∧Hid (aH y G rest (P++(x::(B++Q))) wr)) (fun vi vj _=>(intOf vj).toNat-(intOf vi).toNat)
 case atStart =>
  have ad:=b7.out;exact ⟨m,b,rfl,rfl,by omega,by omega,by omega,Fx (fun k hk=>absurd hk (by omega)),Fx (fun k hk hk'=>absurd hk (by omega)),HS⟩
 clear HS;obtain ⟨i,j,rfl,rfl,a9,bl,a6,HL,HR,HI⟩:=hrel;have ad:=b7.out;by_cases d1:i<j
 ·have ba:(i:Int)<(j:Int):=by omega
  obtain ⟨h,hh⟩:∃ h:Nat,(i+j) / 2=h:=⟨_,rfl⟩
  have b5:IntKind.i64.wrap ((i:Int)+(j:Int))=((i+j:Nat):Int):=by simp[IntKind.wrap,IntKind.bits,IntKind.signed];omega
  have be:=Fx (lD i j h (by omega) hh);obtain ⟨k,hk⟩:∃ k,h-m=k:=⟨_,rfl⟩
  have a8:k<B.length:=by omega
  obtain ⟨z,hz⟩:∃ z,B[k]=z:=⟨_,rfl⟩
  have x1:wr.cell? ⟨G,h,none⟩=some (FN z.A z.n z.c):=by
   have h1:=HI.out;rw[show P++(x::(B++Q))=(P++[x])++(B++Q) by simp] at h1;refine h1.get ?_;rw[rR (P++[x]) B Q (k:=k) (by simp;omega) a8,hz]
  have x2:wr.cell? ⟨G,a,none⟩=some (FN x.A x.n x.c):=HI.out.at ad.1;have lG:G<wr.heap.size:=HI.out.b.lt;have d6:(h:Int)<(n:Int):=by omega
  have d0:(a:Int)<(n:Int):=by omega
  have d3:IntKind.i64.wrap ((h:Int)+1)=((h+1:Nat):Int):=by simp[IntKind.wrap,IntKind.bits,IntKind.signed];omega
  obtain ⟨r,hr⟩:∃ r,ci z x=r:=⟨_,rfl⟩
  have b4:Hid (∀ W,aa [] wr W→Calls Tryz.prog kf (#[FN z.A z.n z.c,FN x.A x.n x.c]++cap) W fun e W'=>e=FP (FR FS r)∧aa [] W W'):=Fx (fun W kk=>by
   rw[←hr];exact HC.out.c z x (cu.out z (by rw[←hz];exact FE a8)) dr.out W (HI.out.k.trans kk.of_nil))
  have bm:i≤h:=by omega
  have b0:h<j:=by omega
  have a7:Hid (∀ k',h=m+k'→k'=k):=Fx (fun k' e=>by omega);have HZ:=Fx hz;have a5:=Fx hr;by_cases bv:r<0
  ·have a2:Hid (∀ wx,aa [] wr wx→∃ i2 j2:Nat,(FR FS ((h+1:Nat):Int):Value)=FR FS (i2:Int)∧(FR FS (j:Int):Value)=FR FS (j2:Int)∧m≤i2∧i2≤j2∧j2≤b∧Hid (∀ k,i2=m+k+1→∀ hk:k<B.length,bS ci x B[k]=false)∧Hid (∀ k,j2=m+k→∀ hk:k<B.length,bS ci x B[k]=true)∧Hid (aH y G rest (P++(x::(B++Q))) wx)):=Fx (fun wx kx=>by
    refine ⟨h+1,j,rfl,rfl,by omega,by omega,a6,Fx (fun k' e hk'=>?_),HR,Fx (HI.out.keep kx)⟩;obtain rfl:=a7.out k' (by omega);rw[HZ.out];exact rQ (by rw[a5.out];exact bv))
   have a0:Hid (j-(h+1)<j-i):=Fx (by omega);clear HZ a5 a7 ad hh hk a8 hz hr bm b0 a9 bl a6;go_upto_region 5 with (fail)
   rw[be.out];clear b5;refine ah (by kernel_rfl) (by kernel_rfl) ?_;repeat (go_big_quiet_step (with_reducible exact KW.of b4.out _))
   refine wpQuiet_nil ?_;intro wx kx;have HN:=Fx (a2.out wx kx);clear x1 x2 lG kx;go_wp2;go_roundw
   case rel=>exact HN.out
   case measure=>simpa[intOf] using a0.out
  have a2:Hid (∀ wx,aa [] wr wx→∃ i2 j2:Nat,(FR FS (i:Int):Value)=FR FS (i2:Int)∧(FR FS (h:Int):Value)=FR FS (j2:Int)∧m≤i2∧i2≤j2∧j2≤b∧Hid (∀ k,i2=m+k+1→∀ hk:k<B.length,bS ci x B[k]=false)∧Hid (∀ k,j2=m+k→∀ hk:k<B.length,bS ci x B[k]=true)∧Hid (aH y G rest (P++(x::(B++Q))) wx)):=Fx (fun wx kx=>by
   refine ⟨i,h,rfl,rfl,a9,bm,by omega,HL,Fx (fun k' e hk'=>?_),Fx (HI.out.keep kx)⟩;obtain rfl:=a7.out k' e;rw[HZ.out];exact nq (by rw[a5.out];exact bv))
  have a0:Hid (h-i<j-i):=Fx (by omega);clear HZ a5 a7 ad hh hk a8 hz hr bm b0 a9 bl a6;go_upto_region 5 with (fail)
  rw[be.out];clear b5;refine ah (by kernel_rfl) (by kernel_rfl) ?_;repeat (go_big_quiet_step (with_reducible exact KW.of b4.out _))
  refine wpQuiet_nil ?_;intro wx kx;have HN:=Fx (a2.out wx kx);clear x1 x2 lG kx;go_wp2;go_roundw
  case rel=>exact HN.out
  case measure=>simpa[intOf] using a0.out
 have dB:¬(i:Int)<(j:Int):=by omega
 obtain rfl:i=j:=by omega
 obtain ⟨t,ht⟩:∃ t,i-m=t:=⟨_,rfl⟩
 obtain ⟨B1,a4⟩:∃ L,B.take t=L:=⟨_,rfl⟩
 obtain ⟨B2,bq⟩:∃ L,B.drop t=L:=⟨_,rfl⟩
 have br:B1++B2=B:=by rw[←a4,←bq,List.take_append_drop]
 have ct:B1.length=t:=by rw[←a4,FH];omega
 have h1:∀ z∈B1,bS ci x z=false:=fun z hz=>by
  rw[←a4] at hz;obtain ⟨q,hq,rfl⟩:=List.getElem_of_mem hz;rw[FH] at hq;rw[List.getElem_take];have h2:=HL.out (t-1) (by omega) (by omega)
  cases hx:bS ci x (B[q]'(by omega)) with
  | false=>rfl
  | true =>
   have h3:bS ci x (B[t-1]'(by omega))=true:=by
    rcases Nat.lt_or_ge q (t-1) with a3|d4
    ·exact HC.out.ord.trans _ _ _ hx (List.pairwise_iff_getElem.1 b8.out q (t-1) (by omega) (by omega) a3)
    obtain rfl:q=t-1:=by omega
    exact hx
   rw[h2] at h3;cases h3
 have h2:∀ z∈B2,bS ci x z=true:=fun z hz=>by
  rw[←bq] at hz;obtain ⟨q,hq,rfl⟩:=List.getElem_of_mem hz;rw[List.length_drop] at hq;rw[List.getElem_drop];have h3:=HR.out t (by omega) (by omega);rcases Nat.eq_zero_or_pos q with rfl|dt
  ·exact h3
  exact HC.out.ord.trans _ _ _ h3 (List.pairwise_iff_getElem.1 b8.out t (t+q) (by omega) (by omega) (by omega))
 have bX:mg (bS ci) [x] B=B1++x::B2:=by rw[←br];exact Dm h1 h2
 have c8:=Fx bX;have bZ:Hid (aH y G rest (P++(B1.take 0++(x::(B1.drop 0++(B2++Q))))) wr):=Fx (by
  have h:=HI.out;rw[←br] at h;simpa using h)
 obtain ⟨i1,c0⟩:∃ i1,a+t=i1:=⟨_,rfl⟩
 have d5:IntKind.i64.wrap ((i:Int)-1)=(i1:Int):=by simp[IntKind.wrap,IntKind.bits,IntKind.signed];omega
 have HX:Hid (a=P.length∧i1=a+B1.length∧a+1+B1.length≤n):=Fx ⟨ad.1,by omega,by omega⟩;clear ad ht a4 bq br ct h1 h2 bX c0 a9 bl a6 HI HL HR;go_wp2_with fail
 go_loopw [13] (fun v wx=>∃ k t:Nat,v=FR FS (k:Int)∧k=a+t∧t≤B1.length∧Hid (aH y G rest (P++(B1.take t++(x::(B1.drop t++(B2++Q))))) wx)) (fun v _=>i1-(intOf v).toNat)
 case atStart=>exact ⟨a,0,rfl,rfl,FF _,bZ⟩
 clear bZ;obtain ⟨p,t,rfl,ca,b6,HI⟩:=hrel;obtain ⟨u,rfl⟩:∃ u:World,u=wr:=⟨_,rfl⟩
 have hx:=HX.out;by_cases a3:p<i1
 ·have ba:(p:Int)<(i1:Int):=by omega
  have bk:t<B1.length:=by omega
  obtain ⟨z,hz⟩:∃ z,B1[t]=z:=⟨_,rfl⟩
  obtain ⟨q,hq⟩:∃ q,p+1=q:=⟨_,rfl⟩
  have d2:(p:Int)<(n:Int):=by omega
  have dz:(q:Int)<(n:Int):=by omega
  have dv:IntKind.i64.wrap ((p:Int)+1)=(q:Int):=by simp[IntKind.wrap,IntKind.bits,IntKind.signed];omega
  have eX:P++(B1.take t++(x::(B1.drop t++(B2++Q))))=(P++B1.take t)++x::([]++z::(B1.drop (t+1)++(B2++Q))):=by
   rw[jz bk,hz];simp
  have eY:P++(B1.take (t+1)++(x::(B1.drop (t+1)++(B2++Q))))=(P++B1.take t)++z::([]++x::(B1.drop (t+1)++(B2++Q))):=by
   rw[lC bk,hz];simp
  have aA:p=(P++B1.take t).length:=by rw[Fz,FH];omega
  rw[eX] at HI;obtain ⟨X,hX⟩:∃ X,P++B1.take t=X:=⟨_,rfl⟩
  obtain ⟨Z,hZ⟩:∃ Z,B1.drop (t+1)++(B2++Q)=Z:=⟨_,rfl⟩
  rw[hX,hZ] at HI;rw[hX] at aA;have bo:q=X.length+1+([]:List SR).length:=by rw[←aA];exact hq.symm
  have c6:Hid (∀ wx,aH y G rest (X++z::([]++x::Z)) wx→∃ k t:Nat,(FR FS (q:Int):Value)=FR FS (k:Int)∧k=a+t∧t≤B1.length∧Hid (aH y G rest (P++(B1.take t++(x::(B1.drop t++(B2++Q))))) wx)):=Fx (fun wx h=>⟨q,t+1,rfl,by omega,by omega,Fx (by rw[eY,hX,hZ];exact h)⟩);have HB:=Fx HI.out.b;have cd:Hid ((bg (X++x::([]++z::Z)) rest)[p]? = some (FN x.A x.n x.c)):=Fx (qI X _ x rest aA);have b3:Hid ((bg (X++x::([]++z::Z)) rest)[q]? = some (FN z.A z.n z.c)):=Fx (oS X [] Z x z rest bo);have cg:Hid (p≠q):=Fx (by omega);have cx:=Fx (wF X [] Z x z rest aA bo);have a0:Hid (i1-q<i1-p):=Fx (by omega);clear eX eY hX hZ aA bo hz hq bk b6 ca hx a3;go_upto_block 3 with (fail)
  go_cut [] (fun wy=>Hid (aH y G rest (X++z::([]++x::Z)) wy))
  case first =>
   rename_i J1 K1 c7 dq;go_upto_region 11 with (fail)
   refine eu (by kernel_rfl) (by kernel_rfl) (by kernel_rfl) (fun (_:Unit) ix=>([FN (some ⟨G,0,none⟩) n c,FR FS (p:Int),FN (some ⟨G,0,none⟩) n c,FR FS (p:Int),FR FS (q:Int),FN (some ⟨G,0,none⟩) n c,FR FS (p:Int),FR FS (q:Int),FO (some ⟨G,q,none⟩),FN z.A z.n z.c,FN (some ⟨G,0,none⟩) n c,FR FS (p:Int),FO (some ⟨G,p,none⟩),FN x.A x.n x.c,FO (some ⟨G,p,none⟩),undef,FO (some ⟨G,q,none⟩),undef]:List Value).getD ix undef) (fun (_:Unit) L w'=>oR u G 89 (bg (X++x::([]++z::Z)) rest) p q (FN z.A z.n z.c) (FN x.A x.n x.c) 9 13 15 17 L w') ⟨(),oR.start HB.out⟩ ?_ ?_
   ·show oQ _ 18
    refine ⟨⟨⟨⟨⟨⟨⟨⟨⟨⟨⟨⟨⟨⟨⟨⟨⟨⟨trivial,?_⟩,?_⟩,?_⟩,?_⟩,?_⟩,?_⟩,?_⟩,?_⟩,?_⟩,?_⟩,?_⟩,?_⟩,?_⟩,?_⟩,?_⟩,?_⟩,?_⟩,?_⟩
    ·intro J g L O U hL M D I
     have e0:O.tmps.getD 0 undef=FN (some ⟨G,0,none⟩) n c:=D.old 0 (by kernel_rfl);have N:=I.far (k:=0) (by decide) (by decide);refine am (g:=g) rfl J rfl D (by exact N) ?_;show (execOp _ _).run _ _=Result.ok (.value (FN (some ⟨G,0,none⟩) n c)) _;clear N D M J I;simp only[execOp,Act.eval,e0];go_simp
    ·intro J g L O U hL M D I
     have av:O.tmps.getD 13 undef=FR FS (p:Int):=D.old 13 (by kernel_rfl);have N:=I.far (k:=1) (by decide) (by decide);refine am (g:=g) rfl J rfl D (by exact N) ?_;show (execOp _ _).run _ _=Result.ok (.value (FR FS (p:Int))) _;clear N D M J I;simp only[execOp,Act.eval,av];go_simp
    ·intro J g L O U hL M D I
     have e0:O.tmps.getD 0 undef=FN (some ⟨G,0,none⟩) n c:=D.old 0 (by kernel_rfl);have N:=I.far (k:=2) (by decide) (by decide);refine am (g:=g) rfl J rfl D (by exact N) ?_;show (execOp _ _).run _ _=Result.ok (.value (FN (some ⟨G,0,none⟩) n c)) _;clear N D M J I;simp only[execOp,Act.eval,e0];go_simp
    ·intro J g L O U hL M D I
     have av:O.tmps.getD 13 undef=FR FS (p:Int):=D.old 13 (by kernel_rfl);have N:=I.far (k:=3) (by decide) (by decide);refine am (g:=g) rfl J rfl D (by exact N) ?_;show (execOp _ _).run _ _=Result.ok (.value (FR FS (p:Int))) _;clear N D M J I;simp only[execOp,Act.eval,av];go_simp
    ·intro J g L O U hL M D I
     have c3:O.tmps.getD 64 undef=FR FS (p:Int):=D.y 3 _ 64 rfl rfl (M 3 (by kernel_rfl));have N:=I.far (k:=4) (by decide) (by decide);refine am (g:=g) rfl J rfl D (by exact N) ?_;show (execOp _ _).run _ _=Result.ok (.value (FR FS (q:Int))) _;clear N D M J I;simp only[execOp,Act.eval,c3];go_simp
    ·intro J g L O U hL M D I
     have e0:O.tmps.getD 0 undef=FN (some ⟨G,0,none⟩) n c:=D.old 0 (by kernel_rfl);have N:=I.far (k:=5) (by decide) (by decide);refine am (g:=g) rfl J rfl D (by exact N) ?_;show (execOp _ _).run _ _=Result.ok (.value (FN (some ⟨G,0,none⟩) n c)) _;clear N D M J I;simp only[execOp,Act.eval,e0];go_simp
    ·intro J g L O U hL M D I
     have av:O.tmps.getD 13 undef=FR FS (p:Int):=D.old 13 (by kernel_rfl);have N:=I.far (k:=6) (by decide) (by decide);refine am (g:=g) rfl J rfl D (by exact N) ?_;show (execOp _ _).run _ _=Result.ok (.value (FR FS (p:Int))) _;clear N D M J I;simp only[execOp,Act.eval,av];go_simp
    ·intro J g L O U hL M D I
     have c5:O.tmps.getD 67 undef=FR FS (p:Int):=D.y 6 _ 67 rfl rfl (M 6 (by kernel_rfl));have N:=I.far (k:=7) (by decide) (by decide);refine am (g:=g) rfl J rfl D (by exact N) ?_;show (execOp _ _).run _ _=Result.ok (.value (FR FS (q:Int))) _;clear N D M J I;simp only[execOp,Act.eval,c5];go_simp
    ·intro J g L O U hL M D I
     have ch:O.tmps.getD 66 undef=FN (some ⟨G,0,none⟩) n c:=D.y 5 _ 66 rfl rfl (M 5 (by kernel_rfl));have c4:O.tmps.getD 68 undef=FR FS (q:Int):=D.y 7 _ 68 rfl rfl (M 7 (by kernel_rfl));have N:=I.far (k:=8) (by decide) (by decide);refine am (g:=g) rfl J rfl D (by exact N) ?_;show (execOp _ _).run _ _=Result.ok (.value (FO (some ⟨G,q,none⟩))) _;clear N D M J I;simp only[execOp,Act.eval,ch,c4];go_simp
    ·intro J g L O U hL M D I
     have cj:O.tmps.getD 69 undef=FO (some ⟨G,q,none⟩):=D.y 8 _ 69 rfl rfl (M 8 (by kernel_rfl));have N:=I.far (k:=9) (by decide) (by decide);obtain ⟨kk,bb⟩:=I.ld1 hL;have x1:U.cell? ⟨G,q,none⟩=some (FN z.A z.n z.c):=(bb.cell _).trans b3.out;clear kk bb;refine am (g:=g) rfl J rfl D (by exact N) ?_;show (execOp _ _).run _ _=Result.ok (.value (FN z.A z.n z.c)) _;clear N D M J I;simp only[execOp,Act.eval,cj];go_simp
    ·intro J g L O U hL M D I
     have e0:O.tmps.getD 0 undef=FN (some ⟨G,0,none⟩) n c:=D.old 0 (by kernel_rfl);have N:=I.far (k:=10) (by decide) (by decide);refine am (g:=g) rfl J rfl D (by exact N) ?_;show (execOp _ _).run _ _=Result.ok (.value (FN (some ⟨G,0,none⟩) n c)) _;clear N D M J I;simp only[execOp,Act.eval,e0];go_simp
    ·intro J g L O U hL M D I
     have av:O.tmps.getD 13 undef=FR FS (p:Int):=D.old 13 (by kernel_rfl);have N:=I.far (k:=11) (by decide) (by decide);refine am (g:=g) rfl J rfl D (by exact N) ?_;show (execOp _ _).run _ _=Result.ok (.value (FR FS (p:Int))) _;clear N D M J I;simp only[execOp,Act.eval,av];go_simp
    ·intro J g L O U hL M D I
     have c9:O.tmps.getD 71 undef=FN (some ⟨G,0,none⟩) n c:=D.y 10 _ 71 rfl rfl (M 10 (by kernel_rfl));have cn:O.tmps.getD 72 undef=FR FS (p:Int):=D.y 11 _ 72 rfl rfl (M 11 (by kernel_rfl));have N:=I.far (k:=12) (by decide) (by decide);refine am (g:=g) rfl J rfl D (by exact N) ?_;show (execOp _ _).run _ _=Result.ok (.value (FO (some ⟨G,p,none⟩))) _;clear N D M J I;simp only[execOp,Act.eval,c9,cn];go_simp
    ·intro J g L O U hL M D I
     have ds:O.tmps.getD 73 undef=FO (some ⟨G,p,none⟩):=D.y 12 _ 73 rfl rfl (M 12 (by kernel_rfl));have N:=I.far (k:=13) (by decide) (by decide);obtain ⟨kk,bb⟩:=I.ld2 hL;have x1:U.cell? ⟨G,p,none⟩=some (FN x.A x.n x.c):=(bb.cell _).trans cd.out;clear kk bb;refine am (g:=g) rfl J rfl D (by exact N) ?_;show (execOp _ _).run _ _=Result.ok (.value (FN x.A x.n x.c)) _;clear N D M J I;simp only[execOp,Act.eval,ds];go_simp
    ·intro J g L O U hL M D I
     have ce:O.tmps.getD 61 undef=FN (some ⟨G,0,none⟩) n c:=D.y 0 _ 61 rfl rfl (M 0 (by kernel_rfl));have co:O.tmps.getD 62 undef=FR FS (p:Int):=D.y 1 _ 62 rfl rfl (M 1 (by kernel_rfl));have N:=I.far (k:=14) (by decide) (by decide);refine am (g:=g) rfl J rfl D (by exact N) ?_;show (execOp _ _).run _ _=Result.ok (.value (FO (some ⟨G,p,none⟩))) _;clear N D M J I;simp only[execOp,Act.eval,ce,co];go_simp
    ·intro J g L O U hL M D I
     have cr:O.tmps.getD 75 undef=FO (some ⟨G,p,none⟩):=D.y 14 _ 75 rfl rfl (M 14 (by kernel_rfl));have cq:O.tmps.getD 70 undef=FN z.A z.n z.c:=D.y 9 _ 70 rfl rfl (M 9 (by kernel_rfl));obtain ⟨kk,bb⟩:=I.p0 hL;have x1:U.cell? ⟨G,p,none⟩=some (FN x.A x.n x.c):=(bb.cell _).trans cd.out;have x2:U.frozen? ⟨G,p,none⟩=false:=bb.frozen _;refine dR (w':=U.setCell ⟨G,p,none⟩ (FN z.A z.n z.c)) rfl rfl ?_ ⟨g,D.put J rfl,I.b1 hL (M 9 (by kernel_rfl)) (M 13 (by kernel_rfl)) (by decide)⟩;clear D M J I kk bb;simp only[execOp,Act.eval,cr,cq];go_simp
    ·intro J g L O U hL M D I
     have cz:O.tmps.getD 63 undef=FN (some ⟨G,0,none⟩) n c:=D.y 2 _ 63 rfl rfl (M 2 (by kernel_rfl));have cy:O.tmps.getD 65 undef=FR FS (q:Int):=D.y 4 _ 65 rfl rfl (M 4 (by kernel_rfl));have N:=I.far (k:=16) (by decide) (by decide);refine am (g:=g) rfl J rfl D (by exact N) ?_;show (execOp _ _).run _ _=Result.ok (.value (FO (some ⟨G,q,none⟩))) _;clear N D M J I;simp only[execOp,Act.eval,cz,cy];go_simp
    intro J g L O U hL M D I;have c1:O.tmps.getD 76 undef=FO (some ⟨G,q,none⟩):=D.y 16 _ 76 rfl rfl (M 16 (by kernel_rfl));have cv:O.tmps.getD 74 undef=FN x.A x.n x.c:=D.y 13 _ 74 rfl rfl (M 13 (by kernel_rfl));have h1:=M 15 (by kernel_rfl);obtain ⟨kk,bb⟩:=I.p1 h1 hL;have x1:U.cell? ⟨G,q,none⟩=some (FN z.A z.n z.c):=(bb.cell _).trans (by rw[Array.getElem?_setIfInBounds,if_neg cg.out];exact b3.out);have x2:U.frozen? ⟨G,q,none⟩=false:=bb.frozen _;refine dR (w':=U.setCell ⟨G,q,none⟩ (FN x.A x.n x.c)) rfl rfl ?_ ⟨g,D.put J rfl,I.b2 hL h1 (by decide)⟩;clear D M J I kk bb;simp only[execOp,Act.eval,c1,cv];go_simp
   intro g L w' bc I
   (try simp only[Exit.inBlock,Exit.then])
   refine dq _ _ (Met.intro (c7 _ _ ?_));repeat apply Exists.intro
   exact ⟨Fx ⟨HI.out.k.trans (I.p2 (bc 17 (by decide))).1,(I.p2 (bc 17 (by decide))).2.congr cx.out⟩,rfl⟩
  have HN:=Fx (c6.out _ hcut.out);obtain ⟨y4,rfl⟩:∃ z:World,z=wc:=⟨_,rfl⟩
  clear hcut;go_wp2;go_roundw
  case rel=>exact HN.out
  case measure=>simpa[intOf] using a0.out
 have ba:¬(p:Int)<(i1:Int):=by omega
 have HF:Hid (aH y G rest (P++(mg (bS ci) [x] B++Q)) u):=Fx (by
  have h:=HI.out;rw[List.take_of_length_le (by omega),List.drop_of_length_le (by omega)] at h;rw[c8.out];simpa using h)
 clear hx ca b6;go_wp2
 (try simp only[Exit.inBlock,Exit.then])
 refine bodyPost_ret (results_none rfl _ _ _) rfl ?_;exact ⟨rfl,HF.out⟩
theorem tH (y:World) (G:Nat) (rest:List Value) (n c:Nat) (hn:n≤1000000) (kf:Nat) (cap:Array Value) (ci:SR→SR→Int) (S:SR→Prop) (hC:tG y G kf cap ci S) (P A:List SR) (I:SR) (Q:List SR) (hS:∀ z∈A,S z) (b3:S I) (hA:2≤A.length) (cr:lM (bS ci) A) (bk:P.length+A.length+1+Q.length=n) (a m b:Nat) (ha:a=P.length) (hm:m=P.length+A.length) (M:b=P.length+A.length+1) (w:World) (h:aH y G rest (P++(A++(I::Q))) w) :
  Calls Tryz.prog 186 #[FN (some ⟨G,0,none⟩) n c,FR FS (a:Int),FR FS (m:Int),FR FS (b:Int),.func (.func kf) #[] cap] w fun e w'=>e=FP (.tuple #[])∧aH y G rest (P++(mg (bS ci) A [I]++Q)) w':=by
 have HS:=Fx h;have c8:=Fx hS;have c1:=Fx b3;have cz:=Fx cr;have HC:=Fx hC;have he:=hC.he;have c5:IntKind.i64.wrap ((m:Int)-(a:Int))=(A.length:Int):=by simp[IntKind.wrap,IntKind.bits,IntKind.signed];omega
 have ds:IntKind.i64.wrap ((b:Int)-(m:Int))=1:=by simp[IntKind.wrap,IntKind.bits,IntKind.signed];omega
 have c6:((A.length:Int)==1)=false:=by rw[beq_eq_false_iff_ne];omega
 have ad:a=P.length∧m=P.length+A.length∧b=m+1∧P.length+A.length+1+Q.length=n∧2≤A.length:=⟨ha,hm,by omega,bk,hA⟩;have cj:=Fx ad;clear h hS hC ad ha M bk hm hA b3 cr;go_enter Tryz.func186,Tryz.ntmps186
 go_wp2_with fail
 clear c5 ds c6;go_loopw [14,15] (fun vi vj wr=>∃ i j:Nat,vi=FR FS (i:Int)∧vj=FR FS (j:Int)∧a≤i∧i≤j∧j≤m∧Hid (∀ k,i=a+k+1→∀ hk:k<A.length,bS ci A[k] I=true)∧Hid (∀ k,j=a+k→∀ hk:k<A.length,bS ci A[k] I=false)∧Hid (aH y G rest (P++(A++(I::Q))) wr)) (fun vi vj _=>(intOf vj).toNat-(intOf vi).toNat)
 case atStart =>
  have ad:=cj.out;exact ⟨a,m,rfl,rfl,by omega,by omega,by omega,Fx (fun k hk=>absurd hk (by omega)),Fx (fun k hk hk'=>absurd hk (by omega)),HS⟩
 clear HS;obtain ⟨i,j,rfl,rfl,ba,bo,a6,HL,HR,HI⟩:=hrel;have ad:=cj.out;by_cases d2:i<j
 ·have bc:(i:Int)<(j:Int):=by omega
  obtain ⟨h,hh⟩:∃ h:Nat,(i+j) / 2=h:=⟨_,rfl⟩
  have cg:IntKind.i64.wrap ((i:Int)+(j:Int))=((i+j:Nat):Int):=by simp[IntKind.wrap,IntKind.bits,IntKind.signed];omega
  have bj:=Fx (lD i j h (by omega) hh);obtain ⟨k,hk⟩:∃ k,h-a=k:=⟨_,rfl⟩
  have a8:k<A.length:=by omega
  obtain ⟨z,hz⟩:∃ z,A[k]=z:=⟨_,rfl⟩
  have x1:wr.cell? ⟨G,h,none⟩=some (FN z.A z.n z.c):=by
   refine HI.out.get ?_;rw[rR P A (I::Q) (k:=k) (by omega) a8,hz]
  have x2:wr.cell? ⟨G,m,none⟩=some (FN I.A I.n I.c):=by
   have h1:=HI.out;rw[show P++(A++(I::Q))=(P++A)++I::Q by simp] at h1;exact h1.at (by rw[Fz];exact ad.2.1)
  have lG:G<wr.heap.size:=HI.out.b.lt;have d7:(h:Int)<(n:Int):=by omega
  have d5:(m:Int)<(n:Int):=by omega
  have d4:IntKind.i64.wrap ((h:Int)+1)=((h+1:Nat):Int):=by simp[IntKind.wrap,IntKind.bits,IntKind.signed];omega
  obtain ⟨r,hr⟩:∃ r,ci I z=r:=⟨_,rfl⟩
  have cd:Hid (∀ W,aa [] wr W→Calls Tryz.prog kf (#[FN I.A I.n I.c,FN z.A z.n z.c]++cap) W fun e W'=>e=FP (FR FS r)∧aa [] W W'):=Fx (fun W kk=>by
   rw[←hr];exact HC.out.c I z c1.out (c8.out z (by rw[←hz];exact FE a8)) W (HI.out.k.trans kk.of_nil))
  have bq:i≤h:=by omega
  have b8:h<j:=by omega
  have a7:Hid (∀ k',h=a+k'→k'=k):=Fx (fun k' e=>by omega);have HZ:=Fx hz;have a5:=Fx hr;by_cases bv:r<0
  ·have a2:Hid (∀ wx,aa [] wr wx→∃ i2 j2:Nat,(FR FS (i:Int):Value)=FR FS (i2:Int)∧(FR FS (h:Int):Value)=FR FS (j2:Int)∧a≤i2∧i2≤j2∧j2≤m∧Hid (∀ k,i2=a+k+1→∀ hk:k<A.length,bS ci A[k] I=true)∧Hid (∀ k,j2=a+k→∀ hk:k<A.length,bS ci A[k] I=false)∧Hid (aH y G rest (P++(A++(I::Q))) wx)):=Fx (fun wx kx=>by
    refine ⟨i,h,rfl,rfl,ba,bq,by omega,HL,Fx (fun k' e hk'=>?_),Fx (HI.out.keep kx)⟩;obtain rfl:=a7.out k' e;rw[HZ.out];exact rQ (by rw[a5.out];exact bv))
   have a0:Hid (h-i<j-i):=Fx (by omega);clear HZ a5 a7 ad hh hk a8 hz hr bq b8 ba bo a6;go_upto_region 17 with (fail)
   rw[bj.out];clear cg;refine ah (by kernel_rfl) (by kernel_rfl) ?_;repeat (go_big_quiet_step (with_reducible exact KW.of cd.out _))
   refine wpQuiet_nil ?_;intro wx kx;have HN:=Fx (a2.out wx kx);clear x1 x2 lG kx;go_wp2;go_roundw
   case rel=>exact HN.out
   case measure=>simpa[intOf] using a0.out
  have a2:Hid (∀ wx,aa [] wr wx→∃ i2 j2:Nat,(FR FS ((h+1:Nat):Int):Value)=FR FS (i2:Int)∧(FR FS (j:Int):Value)=FR FS (j2:Int)∧a≤i2∧i2≤j2∧j2≤m∧Hid (∀ k,i2=a+k+1→∀ hk:k<A.length,bS ci A[k] I=true)∧Hid (∀ k,j2=a+k→∀ hk:k<A.length,bS ci A[k] I=false)∧Hid (aH y G rest (P++(A++(I::Q))) wx)):=Fx (fun wx kx=>by
   refine ⟨h+1,j,rfl,rfl,by omega,by omega,a6,Fx (fun k' e hk'=>?_),HR,Fx (HI.out.keep kx)⟩;obtain rfl:=a7.out k' (by omega);rw[HZ.out];exact nq (by rw[a5.out];exact bv))
  have a0:Hid (j-(h+1)<j-i):=Fx (by omega);clear HZ a5 a7 ad hh hk a8 hz hr bq b8 ba bo a6;go_upto_region 17 with (fail)
  rw[bj.out];clear cg;refine ah (by kernel_rfl) (by kernel_rfl) ?_;repeat (go_big_quiet_step (with_reducible exact KW.of cd.out _))
  refine wpQuiet_nil ?_;intro wx kx;have HN:=Fx (a2.out wx kx);clear x1 x2 lG kx;go_wp2;go_roundw
  case rel=>exact HN.out
  case measure=>simpa[intOf] using a0.out
 have d1:¬(i:Int)<(j:Int):=by omega
 obtain rfl:i=j:=by omega
 obtain ⟨t,ht⟩:∃ t,i-a=t:=⟨_,rfl⟩
 obtain ⟨A1,a4⟩:∃ L,A.take t=L:=⟨_,rfl⟩
 obtain ⟨A2,a9⟩:∃ L,A.drop t=L:=⟨_,rfl⟩
 have bm:A1++A2=A:=by rw[←a4,←a9,List.take_append_drop]
 have c7:A1.length=t:=by rw[←a4,FH];omega
 have c3:A2.length=A.length-t:=by rw[←a9,List.length_drop]
 have h1:∀ z∈A1,bS ci z I=true:=fun z hz=>by
  rw[←a4] at hz;obtain ⟨q,hq,rfl⟩:=List.getElem_of_mem hz;rw[FH] at hq;rw[List.getElem_take];have h2:=HL.out (t-1) (by omega) (by omega);rcases Nat.lt_or_ge q (t-1) with a3|d6
  ·exact HC.out.ord.trans _ _ _ (List.pairwise_iff_getElem.1 cz.out q (t-1) (by omega) (by omega) a3) h2
  obtain rfl:q=t-1:=by omega
  exact h2
 have h2:∀ z∈A2,bS ci z I=false:=fun z hz=>by
  rw[←a9] at hz;obtain ⟨q,hq,rfl⟩:=List.getElem_of_mem hz;rw[List.length_drop] at hq;rw[List.getElem_drop];have h3:=HR.out t (by omega) (by omega)
  cases hx:bS ci (A[t+q]'(by omega)) I with
  | false=>rfl
  | true =>
   rcases Nat.eq_zero_or_pos q with rfl|dz
   ·exact hx.symm.trans h3
   have h4:=HC.out.ord.trans _ _ _ (List.pairwise_iff_getElem.1 cz.out t (t+q) (by omega) (by omega) (by omega)) hx;exact h4.symm.trans h3
 have b0:mg (bS ci) A [I]=A1++I::A2:=by rw[←bm];exact zH h1 h2
 have dt:=Fx b0;have b7:Hid (aH y G rest (P++(A1++(A2.take A2.length++(I::(A2.drop A2.length++Q))))) wr):=Fx (by
  have h:=HI.out;rw[←bm] at h;simpa using h)
 have HX:Hid (a=P.length∧i=a+A1.length∧m=i+A2.length∧m<n):=Fx ⟨ad.1,by omega,by omega,by omega⟩;clear ad ht a4 a9 bm c7 c3 h1 h2 b0 ba bo a6 HI HL HR;go_wp2_with fail
 go_loopw [17] (fun v wx=>∃ k t:Nat,v=FR FS (k:Int)∧k=i+t∧t≤A2.length∧Hid (aH y G rest (P++(A1++(A2.take t++(I::(A2.drop t++Q))))) wx)) (fun v _=>(intOf v).toNat)
 case atStart=>exact ⟨m,A2.length,rfl,HX.out.2.2.1,Fy _,b7⟩
 clear b7;obtain ⟨p,t,rfl,cx,ch,HI⟩:=hrel;obtain ⟨u,rfl⟩:∃ u:World,u=wr:=⟨_,rfl⟩
 have hx:=HX.out;by_cases a3:i<p
 ·have bc:(p:Int)>(i:Int):=by omega
  obtain ⟨t',rfl⟩:∃ t',t=t'+1:=⟨t-1,by omega⟩
  have bl:t'<A2.length:=by omega
  obtain ⟨z,hz⟩:∃ z,A2[t']=z:=⟨_,rfl⟩
  obtain ⟨q,hq⟩:∃ q,p-1=q:=⟨_,rfl⟩
  have d3:(p:Int)<(n:Int):=by omega
  have d0:(q:Int)<(n:Int):=by omega
  have dB:IntKind.i64.wrap ((p:Int)-1)=(q:Int):=by simp[IntKind.wrap,IntKind.bits,IntKind.signed];omega
  have eX:P++(A1++(A2.take (t'+1)++(I::(A2.drop (t'+1)++Q))))=(P++(A1++A2.take t'))++z::([]++I::(A2.drop (t'+1)++Q)):=by
   rw[lC bl,hz];simp
  have eY:P++(A1++(A2.take t'++(I::(A2.drop t'++Q))))=(P++(A1++A2.take t'))++I::([]++z::(A2.drop (t'+1)++Q)):=by
   rw[jz bl,hz];simp
  have aA:q=(P++(A1++A2.take t')).length:=by rw[Fz,Fz,FH];omega
  rw[eX] at HI;obtain ⟨X,hX⟩:∃ X,P++(A1++A2.take t')=X:=⟨_,rfl⟩
  obtain ⟨Z,hZ⟩:∃ Z,A2.drop (t'+1)++Q=Z:=⟨_,rfl⟩
  rw[hX,hZ] at HI;rw[hX] at aA;have br:p=X.length+1+([]:List SR).length:=by
   rw[←aA];show p=q+1;omega
  have dq:Hid (∀ wx,aH y G rest (X++I::([]++z::Z)) wx→∃ k t:Nat,(FR FS (q:Int):Value)=FR FS (k:Int)∧k=i+t∧t≤A2.length∧Hid (aH y G rest (P++(A1++(A2.take t++(I::(A2.drop t++Q))))) wx)):=Fx (fun wx h=>⟨q,t',rfl,by omega,by omega,Fx (by rw[eY,hX,hZ];exact h)⟩);have HB:=Fx HI.out.b;have c0:Hid ((bg (X++z::([]++I::Z)) rest)[q]? = some (FN z.A z.n z.c)):=Fx (qI X _ z rest aA);have b9:Hid ((bg (X++z::([]++I::Z)) rest)[p]? = some (FN I.A I.n I.c)):=Fx (oS X [] Z z I rest br);have c4:Hid (p≠q):=Fx (by omega);have c9:=Fx (tE X [] Z z I rest aA br);have a0:Hid (q<p):=Fx (by omega);clear eX eY hX hZ aA br hz hq bl ch cx hx a3;go_upto_block 7 with (fail)
  go_cut [] (fun wy=>Hid (aH y G rest (X++I::([]++z::Z)) wy))
  case first =>
   rename_i J1 K1 dr dv;go_upto_region 23 with (fail)
   refine eu (by kernel_rfl) (by kernel_rfl) (by kernel_rfl) (fun (_:Unit) ix=>([FN (some ⟨G,0,none⟩) n c,FR FS (p:Int),FN (some ⟨G,0,none⟩) n c,FR FS (p:Int),FR FS (q:Int),FN (some ⟨G,0,none⟩) n c,FR FS (p:Int),FR FS (q:Int),FO (some ⟨G,q,none⟩),FN z.A z.n z.c,FN (some ⟨G,0,none⟩) n c,FR FS (p:Int),FO (some ⟨G,p,none⟩),FN I.A I.n I.c,FO (some ⟨G,p,none⟩),undef,FO (some ⟨G,q,none⟩),undef]:List Value).getD ix undef) (fun (_:Unit) L w'=>oR u G 89 (bg (X++z::([]++I::Z)) rest) p q (FN z.A z.n z.c) (FN I.A I.n I.c) 9 13 15 17 L w') ⟨(),oR.start HB.out⟩ ?_ ?_
   ·show oQ _ 18
    refine ⟨⟨⟨⟨⟨⟨⟨⟨⟨⟨⟨⟨⟨⟨⟨⟨⟨⟨trivial,?_⟩,?_⟩,?_⟩,?_⟩,?_⟩,?_⟩,?_⟩,?_⟩,?_⟩,?_⟩,?_⟩,?_⟩,?_⟩,?_⟩,?_⟩,?_⟩,?_⟩,?_⟩
    ·intro M g L U w1 hL N D J
     have e0:U.tmps.getD 0 undef=FN (some ⟨G,0,none⟩) n c:=D.old 0 (by kernel_rfl);have O:=J.far (k:=0) (by decide) (by decide);refine am (g:=g) rfl M rfl D (by exact O) ?_;show (execOp _ _).run _ _=Result.ok (.value (FN (some ⟨G,0,none⟩) n c)) _;clear O D N M J;simp only[execOp,Act.eval,e0];go_simp
    ·intro M g L U w1 hL N D J
     have av:U.tmps.getD 17 undef=FR FS (p:Int):=D.old 17 (by kernel_rfl);have O:=J.far (k:=1) (by decide) (by decide);refine am (g:=g) rfl M rfl D (by exact O) ?_;show (execOp _ _).run _ _=Result.ok (.value (FR FS (p:Int))) _;clear O D N M J;simp only[execOp,Act.eval,av];go_simp
    ·intro M g L U w1 hL N D J
     have e0:U.tmps.getD 0 undef=FN (some ⟨G,0,none⟩) n c:=D.old 0 (by kernel_rfl);have O:=J.far (k:=2) (by decide) (by decide);refine am (g:=g) rfl M rfl D (by exact O) ?_;show (execOp _ _).run _ _=Result.ok (.value (FN (some ⟨G,0,none⟩) n c)) _;clear O D N M J;simp only[execOp,Act.eval,e0];go_simp
    ·intro M g L U w1 hL N D J
     have av:U.tmps.getD 17 undef=FR FS (p:Int):=D.old 17 (by kernel_rfl);have O:=J.far (k:=3) (by decide) (by decide);refine am (g:=g) rfl M rfl D (by exact O) ?_;show (execOp _ _).run _ _=Result.ok (.value (FR FS (p:Int))) _;clear O D N M J;simp only[execOp,Act.eval,av];go_simp
    ·intro M g L U w1 hL N D J
     have cv:U.tmps.getD 116 undef=FR FS (p:Int):=D.y 3 _ 116 rfl rfl (N 3 (by kernel_rfl));have O:=J.far (k:=4) (by decide) (by decide);refine am (g:=g) rfl M rfl D (by exact O) ?_;show (execOp _ _).run _ _=Result.ok (.value (FR FS (q:Int))) _;clear O D N M J;simp only[execOp,Act.eval,cv];go_simp
    ·intro M g L U w1 hL N D J
     have e0:U.tmps.getD 0 undef=FN (some ⟨G,0,none⟩) n c:=D.old 0 (by kernel_rfl);have O:=J.far (k:=5) (by decide) (by decide);refine am (g:=g) rfl M rfl D (by exact O) ?_;show (execOp _ _).run _ _=Result.ok (.value (FN (some ⟨G,0,none⟩) n c)) _;clear O D N M J;simp only[execOp,Act.eval,e0];go_simp
    ·intro M g L U w1 hL N D J
     have av:U.tmps.getD 17 undef=FR FS (p:Int):=D.old 17 (by kernel_rfl);have O:=J.far (k:=6) (by decide) (by decide);refine am (g:=g) rfl M rfl D (by exact O) ?_;show (execOp _ _).run _ _=Result.ok (.value (FR FS (p:Int))) _;clear O D N M J;simp only[execOp,Act.eval,av];go_simp
    ·intro M g L U w1 hL N D J
     have b4:U.tmps.getD 119 undef=FR FS (p:Int):=D.y 6 _ 119 rfl rfl (N 6 (by kernel_rfl));have O:=J.far (k:=7) (by decide) (by decide);refine am (g:=g) rfl M rfl D (by exact O) ?_;show (execOp _ _).run _ _=Result.ok (.value (FR FS (q:Int))) _;clear O D N M J;simp only[execOp,Act.eval,b4];go_simp
    ·intro M g L U w1 hL N D J
     have bz:U.tmps.getD 118 undef=FN (some ⟨G,0,none⟩) n c:=D.y 5 _ 118 rfl rfl (N 5 (by kernel_rfl));have ca:U.tmps.getD 120 undef=FR FS (q:Int):=D.y 7 _ 120 rfl rfl (N 7 (by kernel_rfl));have O:=J.far (k:=8) (by decide) (by decide);refine am (g:=g) rfl M rfl D (by exact O) ?_;show (execOp _ _).run _ _=Result.ok (.value (FO (some ⟨G,q,none⟩))) _;clear O D N M J;simp only[execOp,Act.eval,bz,ca];go_simp
    ·intro M g L U w1 hL N D J
     have b5:U.tmps.getD 121 undef=FO (some ⟨G,q,none⟩):=D.y 8 _ 121 rfl rfl (N 8 (by kernel_rfl));have O:=J.far (k:=9) (by decide) (by decide);obtain ⟨kk,bb⟩:=J.ld1 hL;have x1:w1.cell? ⟨G,q,none⟩=some (FN z.A z.n z.c):=(bb.cell _).trans c0.out;clear kk bb;refine am (g:=g) rfl M rfl D (by exact O) ?_;show (execOp _ _).run _ _=Result.ok (.value (FN z.A z.n z.c)) _;clear O D N M J;simp only[execOp,Act.eval,b5];go_simp
    ·intro M g L U w1 hL N D J
     have e0:U.tmps.getD 0 undef=FN (some ⟨G,0,none⟩) n c:=D.old 0 (by kernel_rfl);have O:=J.far (k:=10) (by decide) (by decide);refine am (g:=g) rfl M rfl D (by exact O) ?_;show (execOp _ _).run _ _=Result.ok (.value (FN (some ⟨G,0,none⟩) n c)) _;clear O D N M J;simp only[execOp,Act.eval,e0];go_simp
    ·intro M g L U w1 hL N D J
     have av:U.tmps.getD 17 undef=FR FS (p:Int):=D.old 17 (by kernel_rfl);have O:=J.far (k:=11) (by decide) (by decide);refine am (g:=g) rfl M rfl D (by exact O) ?_;show (execOp _ _).run _ _=Result.ok (.value (FR FS (p:Int))) _;clear O D N M J;simp only[execOp,Act.eval,av];go_simp
    ·intro M g L U w1 hL N D J
     have cm:U.tmps.getD 123 undef=FN (some ⟨G,0,none⟩) n c:=D.y 10 _ 123 rfl rfl (N 10 (by kernel_rfl));have ce:U.tmps.getD 124 undef=FR FS (p:Int):=D.y 11 _ 124 rfl rfl (N 11 (by kernel_rfl));have O:=J.far (k:=12) (by decide) (by decide);refine am (g:=g) rfl M rfl D (by exact O) ?_;show (execOp _ _).run _ _=Result.ok (.value (FO (some ⟨G,p,none⟩))) _;clear O D N M J;simp only[execOp,Act.eval,cm,ce];go_simp
    ·intro M g L U w1 hL N D J
     have bX:U.tmps.getD 125 undef=FO (some ⟨G,p,none⟩):=D.y 12 _ 125 rfl rfl (N 12 (by kernel_rfl));have O:=J.far (k:=13) (by decide) (by decide);obtain ⟨kk,bb⟩:=J.ld2 hL;have x1:w1.cell? ⟨G,p,none⟩=some (FN I.A I.n I.c):=(bb.cell _).trans b9.out;clear kk bb;refine am (g:=g) rfl M rfl D (by exact O) ?_;show (execOp _ _).run _ _=Result.ok (.value (FN I.A I.n I.c)) _;clear O D N M J;simp only[execOp,Act.eval,bX];go_simp
    ·intro M g L U w1 hL N D J
     have co:U.tmps.getD 113 undef=FN (some ⟨G,0,none⟩) n c:=D.y 0 _ 113 rfl rfl (N 0 (by kernel_rfl));have cn:U.tmps.getD 114 undef=FR FS (p:Int):=D.y 1 _ 114 rfl rfl (N 1 (by kernel_rfl));have O:=J.far (k:=14) (by decide) (by decide);refine am (g:=g) rfl M rfl D (by exact O) ?_;show (execOp _ _).run _ _=Result.ok (.value (FO (some ⟨G,p,none⟩))) _;clear O D N M J;simp only[execOp,Act.eval,co,cn];go_simp
    ·intro M g L U w1 hL N D J
     have b6:U.tmps.getD 127 undef=FO (some ⟨G,p,none⟩):=D.y 14 _ 127 rfl rfl (N 14 (by kernel_rfl));have cu:U.tmps.getD 122 undef=FN z.A z.n z.c:=D.y 9 _ 122 rfl rfl (N 9 (by kernel_rfl));obtain ⟨kk,bb⟩:=J.p0 hL;have x1:w1.cell? ⟨G,p,none⟩=some (FN I.A I.n I.c):=(bb.cell _).trans b9.out;have x2:w1.frozen? ⟨G,p,none⟩=false:=bb.frozen _;refine dR (w':=w1.setCell ⟨G,p,none⟩ (FN z.A z.n z.c)) rfl rfl ?_ ⟨g,D.put M rfl,J.b1 hL (N 9 (by kernel_rfl)) (N 13 (by kernel_rfl)) (by decide)⟩;clear D N M J kk bb;simp only[execOp,Act.eval,b6,cu];go_simp
    ·intro M g L U w1 hL N D J
     have cy:U.tmps.getD 115 undef=FN (some ⟨G,0,none⟩) n c:=D.y 2 _ 115 rfl rfl (N 2 (by kernel_rfl));have ct:U.tmps.getD 117 undef=FR FS (q:Int):=D.y 4 _ 117 rfl rfl (N 4 (by kernel_rfl));have O:=J.far (k:=16) (by decide) (by decide);refine am (g:=g) rfl M rfl D (by exact O) ?_;show (execOp _ _).run _ _=Result.ok (.value (FO (some ⟨G,q,none⟩))) _;clear O D N M J;simp only[execOp,Act.eval,cy,ct];go_simp
    intro M g L U w1 hL N D J;have bZ:U.tmps.getD 128 undef=FO (some ⟨G,q,none⟩):=D.y 16 _ 128 rfl rfl (N 16 (by kernel_rfl));have cq:U.tmps.getD 126 undef=FN I.A I.n I.c:=D.y 13 _ 126 rfl rfl (N 13 (by kernel_rfl));have h1:=N 15 (by kernel_rfl);obtain ⟨kk,bb⟩:=J.p1 h1 hL;have x1:w1.cell? ⟨G,q,none⟩=some (FN z.A z.n z.c):=(bb.cell _).trans (by rw[Array.getElem?_setIfInBounds,if_neg c4.out];exact c0.out);have x2:w1.frozen? ⟨G,q,none⟩=false:=bb.frozen _;refine dR (w':=w1.setCell ⟨G,q,none⟩ (FN I.A I.n I.c)) rfl rfl ?_ ⟨g,D.put M rfl,J.b2 hL h1 (by decide)⟩;clear D N M J kk bb;simp only[execOp,Act.eval,bZ,cq];go_simp
   intro g L w' be J
   (try simp only[Exit.inBlock,Exit.then])
   refine dv _ _ (Met.intro (dr _ _ ?_));repeat apply Exists.intro
   exact ⟨Fx ⟨HI.out.k.trans (J.p2 (be 17 (by decide))).1,(J.p2 (be 17 (by decide))).2.congr c9.out⟩,rfl⟩
  have HN:=Fx (dq.out _ hcut.out);obtain ⟨y4,rfl⟩:∃ z:World,z=wc:=⟨_,rfl⟩
  clear hcut;go_wp2;go_roundw
  case rel=>exact HN.out
  case measure=>simpa[intOf] using a0.out
 have bc:¬(p:Int)>(i:Int):=by omega
 have HF:Hid (aH y G rest (P++(mg (bS ci) A [I]++Q)) u):=Fx (by
  have h:=HI.out;obtain rfl:t=0:=by omega
  rw[dt.out];simpa using h)
 clear hx cx ch;go_wp2
 (try simp only[Exit.inBlock,Exit.then])
 refine bodyPost_ret (results_none rfl _ _ _) rfl ?_;exact ⟨rfl,HF.out⟩
theorem vB (y:World) (G:Nat) (rest:List Value) (n c:Nat) (hn:n≤1000000) (cv:Value) (P A B Q:List SR) (hA:0<A.length) (hB:0<B.length) (a0:P.length+A.length+B.length+Q.length=n) (a m b:Nat) (ha:a=P.length) (hm:m=P.length+A.length) (hb:b=P.length+A.length+B.length) (w:World) (h:aH y G rest (P++(A++(B++Q))) w) :
  Calls Tryz.prog 198 #[FN (some ⟨G,0,none⟩) n c,FR FS (a:Int),FR FS (m:Int),FR FS (b:Int),cv] w fun e w'=>e=FP (.tuple #[])∧aH y G rest (P++(B++(A++Q))) w':=by
 have HS:=Fx h;clear h;have a7:IntKind.i64.wrap ((m:Int)-(a:Int))=(A.length:Int):=by simp[IntKind.wrap,IntKind.bits,IntKind.signed];omega
 have ba:IntKind.i64.wrap ((b:Int)-(m:Int))=(B.length:Int):=by simp[IntKind.wrap,IntKind.bits,IntKind.signed];omega
 have a4:a=P.length∧P.length+A.length=m∧P.length+A.length+B.length+Q.length=n:=⟨ha,hm.symm,a0⟩;have a5:=Fx a4;have HA:=Fx hA;have HB:=Fx hB;clear a4 a0 ha hm hb hA hB;go_enter Tryz.func198,Tryz.ntmps198
 go_wp2_with fail
 clear a7 ba;go_loopw [10,11] (fun vi vj wr=>∃ (N I D M:List SR) (i j p:Nat),vi=FR FS (i:Int)∧vj=FR FS (j:Int)∧i=I.length∧j=D.length∧p=N.length∧p+i=m∧0<i∧0<j∧p+i+j+M.length=n∧N++(D++(I++M))=P++(B++(A++Q))∧Hid (aH y G rest (N++(I++(D++M))) wr)) (fun vi vj _=>(intOf vi).toNat+(intOf vj).toNat)
 case atStart=>exact ⟨P,A,B,Q,A.length,B.length,P.length,rfl,rfl,rfl,rfl,rfl,a5.out.2.1,HA.out,HB.out,a5.out.2.2,rfl,HS⟩
 obtain ⟨N,I,D,M,i,j,p,rfl,rfl,hi,hj,hp,aA,av,ad,hl,he,HI⟩:=hrel;have HE:=Fx he;clear he HS;by_cases a1:i=j
 ·subst a1
  have hq:((i:Int) != (i:Int))=false:=by simp
  have a8:IntKind.i64.wrap ((m:Int)-(i:Int))=(p:Int):=by simp[IntKind.wrap,IntKind.bits,IntKind.signed];omega
  have U:Hid (Calls Tryz.prog 203 #[FN (some ⟨G,0,none⟩) n c,FR FS (p:Int),FR FS (m:Int),FR FS (i:Int),cv] wr fun e w'=>e=FP (.tuple #[])∧aH y G rest (P++(B++(A++Q))) w'):=Fx (by
   rw[←HE.out];exact gC y G rest n c hn cv N I [] D M (by omega) (by simp;omega) p m i hp (by simp;omega) hi wr HI.out)
  clear hi hj hp aA av ad hl;go_wp2_with ((with_reducible refine U.out.mono ?_);rintro e Z ⟨rfl,h5⟩)
  go_end0
  exact ⟨rfl,h5⟩
 have hq:((i:Int) != (j:Int))=true:=by simp;omega
 have a8:IntKind.i64.wrap ((m:Int)-(i:Int))=(p:Int):=by simp[IntKind.wrap,IntKind.bits,IntKind.signed];omega
 by_cases a3:j<i
 ·have hg:(i:Int)>(j:Int):=by omega
  obtain ⟨i',hi'⟩:∃ i':Nat,i-j=i':=⟨_,rfl⟩
  have a9:IntKind.i64.wrap ((i:Int)-(j:Int))=(i':Int):=by simp[IntKind.wrap,IntKind.bits,IntKind.signed];omega
  have U:Hid (Calls Tryz.prog 203 #[FN (some ⟨G,0,none⟩) n c,FR FS (p:Int),FR FS (m:Int),FR FS (j:Int),cv] wr fun e w'=>e=FP (.tuple #[])∧aH y G rest (N++(D++(I.drop j++(I.take j++M)))) w'):=Fx (by
   refine gC y G rest n c hn cv N (I.take j) (I.drop j) D M (by simp;omega) (by simp;omega) p m j hp (by simp;omega) (by simp;omega) wr ?_;have h:=HI.out;rw[show I++(D++M)=I.take j++(I.drop j++(D++M)) by rw[←List.append_assoc (I.take j),List.take_append_drop]] at h;exact h)
  have HX:Hid (∀ Z,aH y G rest (N++(D++(I.drop j++(I.take j++M)))) Z→∃ (P2 A2 B2 Q2:List SR) (i2 j2 p2:Nat),(FR FS (i':Int):Value)=FR FS (i2:Int)∧(FR FS (j:Int):Value)=FR FS (j2:Int)∧i2=A2.length∧j2=B2.length∧p2=P2.length∧p2+i2=m∧0<i2∧0<j2∧p2+i2+j2+Q2.length=n∧P2++(B2++(A2++Q2))=P++(B++(A++Q))∧Hid (aH y G rest (P2++(A2++(B2++Q2))) Z)):=Fx (fun Z h5=>by
   refine ⟨N++D,I.drop j,I.take j,M,i',j,p+j,rfl,rfl,by simp;omega,by simp;omega,by simp;omega,by omega,by omega,ad,by omega,?_,Fx (by simpa using h5)⟩;rw[←HE.out];simp only[List.append_assoc];rw[←List.append_assoc (I.take j),List.take_append_drop])
  have O:i'+j<i+j:=by omega
  have a2:=Fx O;clear O hi hj hp aA av ad hl hi' a3 a1;go_wp2_with ((with_reducible refine U.out.mono ?_);rintro e Z ⟨rfl,h5⟩)
  go_roundw
  case rel=>exact HX.out _ h5
  case measure=>simpa[intOf] using a2.out
 have hg:¬(i:Int)>(j:Int):=by omega
 obtain ⟨J,hj'⟩:∃ J:Nat,j-i=J:=⟨_,rfl⟩
 obtain ⟨q,a6⟩:∃ q:Nat,m+j-i=q:=⟨_,rfl⟩
 have a9:IntKind.i64.wrap ((j:Int)-(i:Int))=(J:Int):=by simp[IntKind.wrap,IntKind.bits,IntKind.signed];omega
 have bb:IntKind.i64.wrap ((m:Int)+(j:Int))=(m:Int)+(j:Int):=by simp[IntKind.wrap,IntKind.bits,IntKind.signed];omega
 have bc:IntKind.i64.wrap ((m:Int)+(j:Int)-(i:Int))=(q:Int):=by simp[IntKind.wrap,IntKind.bits,IntKind.signed];omega
 have U:Hid (Calls Tryz.prog 203 #[FN (some ⟨G,0,none⟩) n c,FR FS (p:Int),FR FS (q:Int),FR FS (i:Int),cv] wr fun e w'=>e=FP (.tuple #[])∧aH y G rest (N++(D.drop J++(D.take J++(I++M)))) w'):=Fx (by
  refine gC y G rest n c hn cv N I (D.take J) (D.drop J) M (by simp;omega) (by simp;omega) p q i hp (by simp;omega) hi wr ?_;have h:=HI.out;rw[show D++M=D.take J++(D.drop J++M) by rw[←List.append_assoc (D.take J),List.take_append_drop]] at h;exact h)
 have HX:Hid (∀ Z,aH y G rest (N++(D.drop J++(D.take J++(I++M)))) Z→∃ (P2 A2 B2 Q2:List SR) (i2 j2 p2:Nat),(FR FS (i:Int):Value)=FR FS (i2:Int)∧(FR FS (J:Int):Value)=FR FS (j2:Int)∧i2=A2.length∧j2=B2.length∧p2=P2.length∧p2+i2=m∧0<i2∧0<j2∧p2+i2+j2+Q2.length=n∧P2++(B2++(A2++Q2))=P++(B++(A++Q))∧Hid (aH y G rest (P2++(A2++(B2++Q2))) Z)):=Fx (fun Z h5=>by
  refine ⟨N,D.drop J,D.take J,I++M,i,J,p,rfl,rfl,by simp;omega,by simp;omega,hp,aA,av,by omega,by simp;omega,?_,Fx h5⟩;rw[←HE.out,←List.append_assoc (D.take J),List.take_append_drop])
 have O:i+J<i+j:=by omega
 have a2:=Fx O;clear O hi hj hp aA av ad hl hj' a3 a1 a6;go_wp2_with ((with_reducible refine U.out.mono ?_);rintro e Z ⟨rfl,h5⟩)
 go_roundw
 case rel=>exact HX.out _ h5
 case measure=>simpa[intOf] using a2.out
def AN (y:World) (G:Nat) (rest:List Value) (n c D:Nat) (cap:Array Value) (h:SR→SR→Int) (S:SR→Prop) (N:Nat):Prop :=
 ∀ (P A B Q:List SR),0<A.length→0<B.length→A.length+B.length<N→(∀ z∈A,S z)→(∀ z∈B,S z)→lM (bS h) A→lM (bS h) B→P.length+A.length+B.length+Q.length=n→∀ (a m b:Nat),a=P.length→m=P.length+A.length→b=P.length+A.length+B.length→∀ w,aH y G rest (P++(A++(B++Q))) w →
  Calls Tryz.prog 186 #[FN (some ⟨G,0,none⟩) n c,FR FS (a:Int),FR FS (m:Int),FR FS (b:Int),.func (.func D) #[] cap] w fun e w'=>e=FP (.tuple #[])∧aH y G rest (P++(mg (bS h) A B++Q)) w'
theorem Co {α:Type} {le:α→α→Bool} (ho:iX le) {A B:List α} (hA:lM le A) (hB:lM le B) {a m b D M s N O e:Nat} (h1:m=a+A.length) (h2:b=m+B.length) (h3:(a+b) / 2=D) (h4:D+m=M) (hf:(D<m∧N+b=M∧O=D)∨(m≤D∧N=a∧O=m)) (ba:N≤s) (a9:s≤O) (he:M-s=e)
  (HL:s=N∨∀ i k (hi:i<A.length) (hk:k<B.length),s=a+i+1→M=s+m+k→le A[i] B[k]=true) (HR:s=O∨∀ i k (hi:i<A.length) (hk:k<B.length),s=a+i→M=1+s+m+k→le A[i] B[k]=false) :
  ∃ A1 U B1 B2:List α,A1++U=A∧B1++B2=B∧mg le A B=mg le A1 B1++mg le U B2∧s=a+A1.length∧m=s+U.length∧e=m+B1.length∧b=e+B2.length∧D=s+B1.length∧e=D+U.length∧s+e=M:=by
 have a2:a≤s∧s≤m∧m≤e∧e≤b∧s+e=M∧s≤D∧D≤e:=by omega
 obtain ⟨I,bb⟩:∃ t,s-a=t:=⟨_,rfl⟩
 obtain ⟨J,a8⟩:∃ t,e-m=t:=⟨_,rfl⟩
 have a6:(A.take I).length=I:=by rw[FH];omega
 have a7:(A.drop I).length=A.length-I:=List.length_drop;have a4:(B.take J).length=J:=by rw[FH];omega
 have a5:(B.drop J).length=B.length-J:=List.length_drop;have a3:lM le (A.take I):=List.Pairwise.sublist (List.take_sublist _ _) hA;have ad:lM le (A.drop I):=List.Pairwise.sublist (List.drop_sublist _ _) hA;have av:lM le (B.take J):=List.Pairwise.sublist (List.take_sublist _ _) hB;have aA:lM le (B.drop J):=List.Pairwise.sublist (List.drop_sublist _ _) hB;have a0:∀ x∈A.take I,∀ z∈B.drop J,le x z=true:=BV ho a3 aA fun n1 a1 hn h0=>by
  rw[List.getElem_take,List.getElem_drop];rcases HL with h|h
  ·omega
  exact h n1 (J+0) (by omega) (by omega) (by omega) (by omega)
 have Z:∀ x∈A.drop I,∀ z∈B.take J,le x z=false:=BW ho ad av fun n1 a1 hn h0=>by
  rw[List.getElem_take,List.getElem_drop];rcases HR with h|h
  ·omega
  exact h (I+0) n1 (by omega) (by omega) (by omega) (by omega)
 refine ⟨A.take I,A.drop I,B.take J,B.drop J,List.take_append_drop _ _,List.take_append_drop _ _,?_,by omega,by omega,by omega,by omega,by omega,by omega,a2.2.2.2.2.1⟩;have h5:=eV (A.take I) (A.drop I) (B.take J) (B.drop J) a0 Z;rwa [List.take_append_drop,List.take_append_drop] at h5
theorem vC (y:World) (G:Nat) (rest:List Value) (n c:Nat) (hn:n≤1000000) (kf:Nat) (cap:Array Value) (J:SR→SR→Int) (S:SR→Prop) (hC:tG y G kf cap J S) (P A B Q:List SR) (IH:AN y G rest n c kf cap J S (A.length+B.length)) (cj:∀ z∈A,S z) (ch:∀ z∈B,S z) (hA:2≤A.length) (hB:2≤B.length) (c5:lM (bS J) A) (cn:lM (bS J) B) (c7:P.length+A.length+B.length+Q.length=n) (a m b:Nat) (ha:a=P.length) (hm:m=P.length+A.length) (hb:b=P.length+A.length+B.length) (w:World) (h:aH y G rest (P++(A++(B++Q))) w) :
    Calls Tryz.prog 186 #[FN (some ⟨G,0,none⟩) n c,FR FS (a:Int),FR FS (m:Int),FR FS (b:Int),.func (.func kf) #[] cap] w fun e w'=>e=FP (.tuple #[])∧aH y G rest (P++(mg (bS J) A B++Q)) w':=by
  have HS:=Fx h;have cd:=Fx cj;have b9:=Fx ch;have c6:=Fx c5;have co:=Fx cn;have HC:=Fx hC;have cu:=Fx IH;have he:=hC.he;obtain ⟨D,bl⟩:∃ D,(a+b) / 2=D:=⟨_,rfl⟩
  obtain ⟨nn,cy⟩:∃ nn,D+m=nn:=⟨_,rfl⟩
  obtain ⟨p,hp⟩:∃ p,nn-1=p:=⟨_,rfl⟩
  have HG:Hid (a=P.length∧m=a+A.length∧b=m+B.length∧b+Q.length=n∧2≤A.length∧2≤B.length∧(a+b) / 2=D∧D+m=nn∧nn=p+1):=Fx ⟨ha,by omega,by omega,by omega,hA,hB,bl,cy,by omega⟩;have d0:IntKind.i64.wrap ((m:Int)-(a:Int))=(A.length:Int):=by simp[IntKind.wrap,IntKind.bits,IntKind.signed];omega
  have d9:IntKind.i64.wrap ((b:Int)-(m:Int))=(B.length:Int):=by simp[IntKind.wrap,IntKind.bits,IntKind.signed];omega
  have d1:((A.length:Int)==1)=false:=by rw[beq_eq_false_iff_ne];omega
  have dB:((B.length:Int)==1)=false:=by rw[beq_eq_false_iff_ne];omega
  have bo:IntKind.i64.wrap ((a:Int)+(b:Int))=((a+b:Nat):Int):=by simp[IntKind.wrap,IntKind.bits,IntKind.signed];omega
  have dz:IntKind.i64.wrap ((D:Int)+(m:Int))=(nn:Int):=by simp[IntKind.wrap,IntKind.bits,IntKind.signed];omega
  have d4:IntKind.i64.wrap ((nn:Int)-1)=(p:Int):=by simp[IntKind.wrap,IntKind.bits,IntKind.signed];omega
  have a4:=Fx (lD a b D (by omega) bl);clear h hC ha hb c7 hm hA hB c5 cn cj ch IH bl cy hp;go_enter Tryz.func186,Tryz.ntmps186
  go_upto_region 25 with (fail)
  rw[a4.out];clear d0 d9 d1 dB bo a4;go_upto_region 27 with (fail)
  clear dz;go_upto_if 140 with (fail)
  go_cut [20,21] from 138 to 146 (fun v1 v2 Z=>∃ O U:Nat,v1=FR FS (O:Int)∧v2=FR FS (U:Int)∧Hid ((D<m∧O+b=nn∧U=D)∨(m≤D∧O=a∧U=m))∧Hid (aH y G rest (P++(A++(B++Q))) Z))
  case first =>
    have hg:=HG.out;by_cases b1:D<m
    · have d2:(m:Int)>(D:Int):=by omega
      have d8:decide (D<m)=true:=decide_eq_true b1;obtain ⟨O,ad⟩:∃ O,nn-b=O:=⟨_,rfl⟩
      obtain ⟨U,N⟩:∃ U,U=D:=⟨_,rfl⟩
      have b5:=Fx N;have el:IntKind.i64.wrap ((nn:Int)-(b:Int))=(O:Int):=by simp[IntKind.wrap,IntKind.bits,IntKind.signed];omega
      have HF:Hid ((D<m∧O+b=nn∧U=D)∨(m≤D∧O=a∧U=m)):=Fx (.inl ⟨b1,by omega,N⟩);clear hg ad N;go_wp2;go_meet;exact ⟨O,U,rfl,by rw[b5.out],HF,HS⟩
    · have d2:¬(m:Int)>(D:Int):=by omega
      have d8:decide (D<m)=false:=decide_eq_false b1;obtain ⟨O,ad⟩:∃ O,O=a:=⟨_,rfl⟩
      obtain ⟨U,N⟩:∃ U,U=m:=⟨_,rfl⟩
      have b5:=Fx N;have d3:=Fx ad;have HF:Hid ((D<m∧O+b=nn∧U=D)∨(m≤D∧O=a∧U=m)):=Fx (.inr ⟨by omega,ad,N⟩);clear hg ad N;go_wp2;go_meet;exact ⟨O,U,by rw[d3.out],by rw[b5.out],HF,HS⟩
  obtain ⟨O,U,rfl,rfl,HF,cx⟩:=hcut;obtain ⟨w,rfl⟩:∃ z:World,z=wc:=⟨_,rfl⟩
  have bZ:Hid (∃ s r:Nat,(FR FS (O:Int):Value)=FR FS (s:Int)∧(FR FS (U:Int):Value)=FR FS (r:Int)∧O≤s∧s≤r∧r≤U∧Hid (s=O∨∀ i k (hi:i<A.length) (hk:k<B.length),s=a+i+1→nn=s+m+k→bS J A[i] B[k]=true)∧Hid (r=U∨∀ i k (hi:i<A.length) (hk:k<B.length),r=a+i→nn=1+r+m+k→bS J A[i] B[k]=false)∧Hid (aH y G rest (P++(A++(B++Q))) w)):=Fx (by
    have hg:=HG.out;have hf:=HF.out;exact ⟨O,U,rfl,rfl,Fy _,by omega,Fy _,Fx (.inl rfl),Fx (.inl rfl),cx⟩)
  clear HS cx;go_wp2_with fail
  clear d4;go_loopw [20,21] (fun v1 v2 wr=>∃ s r:Nat,v1=FR FS (s:Int)∧v2=FR FS (r:Int)∧O≤s∧s≤r∧r≤U∧Hid (s=O∨∀ i k (hi:i<A.length) (hk:k<B.length),s=a+i+1→nn=s+m+k→bS J A[i] B[k]=true)∧Hid (r=U∨∀ i k (hi:i<A.length) (hk:k<B.length),r=a+i→nn=1+r+m+k→bS J A[i] B[k]=false)∧Hid (aH y G rest (P++(A++(B++Q))) wr)) (fun v1 v2 _=>(intOf v2).toNat-(intOf v1).toNat)
  case atStart=>exact bZ.out
  clear bZ;obtain ⟨s,r,rfl,rfl,ad,b6,N,HL,HR,HI⟩:=hrel;by_cases d6:s<r
  · have bz:(s:Int)<(r:Int):=by omega
    have hg:=HG.out;have hf:=HF.out;obtain ⟨ce,b4⟩:∃ ce:Nat,(s+r) / 2=ce:=⟨_,rfl⟩
    have ba:s≤ce∧ce<r:=by omega
    have bo:IntKind.i64.wrap ((s:Int)+(r:Int))=((s+r:Nat):Int):=by simp[IntKind.wrap,IntKind.bits,IntKind.signed];omega
    have a4:=Fx (lD s r ce (by omega) b4);obtain ⟨i,hi⟩:∃ i,ce-a=i:=⟨_,rfl⟩
    obtain ⟨d,hd⟩:∃ d,p-ce=d:=⟨_,rfl⟩
    obtain ⟨k,hk⟩:∃ k,d-m=k:=⟨_,rfl⟩
    have hq:ce=a+i∧i<A.length∧d=m+k∧k<B.length∧p=ce+d:=by omega
    obtain ⟨za,a6⟩:∃ z,A[i]'hq.2.1=z:=⟨_,rfl⟩
    obtain ⟨zb,a5⟩:∃ z,B[k]'hq.2.2.2.1=z:=⟨_,rfl⟩
    have x1:wr.cell? ⟨G,ce,none⟩=some (FN za.A za.n za.c):=by
      refine HI.out.get ?_;rw[rR P A (B++Q) (k:=i) (by omega) hq.2.1,a6]
    have x2:wr.cell? ⟨G,d,none⟩=some (FN zb.A zb.n zb.c):=by
      have h1:=HI.out;rw[show P++(A++(B++Q))=(P++A)++(B++Q) by simp] at h1;refine h1.get ?_;rw[rR (P++A) B Q (k:=k) (by rw[Fz];omega) hq.2.2.2.1,a5]
    have lG:G<wr.heap.size:=HI.out.b.lt;have es:(ce:Int)<(n:Int):=by omega
    have eb:(d:Int)<(n:Int):=by omega
    have en:IntKind.i64.wrap ((p:Int)-(ce:Int))=(d:Int):=by simp[IntKind.wrap,IntKind.bits,IntKind.signed];omega
    have er:IntKind.i64.wrap ((ce:Int)+1)=((ce+1:Nat):Int):=by simp[IntKind.wrap,IntKind.bits,IntKind.signed];omega
    obtain ⟨rr,a7⟩:∃ rr,J zb za=rr:=⟨_,rfl⟩
    have cz:Hid (∀ W,aa [] wr W→Calls Tryz.prog kf (#[FN zb.A zb.n zb.c,FN za.A za.n za.c]++cap) W fun e W'=>e=FP (FR FS rr)∧aa [] W W'):=Fx (fun W kk=>by
      rw[←a7];exact HC.out.c zb za (b9.out zb (by rw[←a5];exact FE _)) (cd.out za (by rw[←a6];exact FE _)) W (HI.out.k.trans kk.of_nil))
    by_cases b0:rr<0
    · have bk:Hid (∀ Z,aa [] wr Z→∃ s2 r2:Nat,(FR FS (s:Int):Value)=FR FS (s2:Int)∧(FR FS (ce:Int):Value)=FR FS (r2:Int)∧O≤s2∧s2≤r2∧r2≤U∧Hid (s2=O∨∀ i k (hi:i<A.length) (hk:k<B.length),s2=a+i+1→nn=s2+m+k→bS J A[i] B[k]=true)∧Hid (r2=U∨∀ i k (hi:i<A.length) (hk:k<B.length),r2=a+i→nn=1+r2+m+k→bS J A[i] B[k]=false)∧Hid (aH y G rest (P++(A++(B++Q))) Z)):=Fx (fun Z kx=>by
        refine ⟨s,ce,rfl,rfl,ad,ba.1,by omega,HL,Fx (.inr fun i' k' hi' hk' e1 e2=>?_),Fx (HI.out.keep kx)⟩;obtain rfl:i'=i:=by omega
        obtain rfl:k'=k:=by omega
        rw[a6,a5];exact rQ (by rw[a7];exact b0))
      have b7:Hid (ce-s<r-s):=Fx (by omega);clear a6 a5 a7 hq hi hd hk hg hf b4 ba ad b6 N;go_upto_region 35 with (fail)
      rw[a4.out];clear bo;refine ah (by kernel_rfl) (by kernel_rfl) ?_;repeat (go_big_quiet_step (with_reducible exact KW.of cz.out _))
      refine wpQuiet_nil ?_;intro Z kx;have HN:=Fx (bk.out Z kx);clear x1 x2 lG kx;go_wp2;go_roundw
      case rel=>exact HN.out
      case measure=>simpa[intOf] using b7.out
    · have bk:Hid (∀ Z,aa [] wr Z→∃ s2 r2:Nat,(FR FS ((ce+1:Nat):Int):Value)=FR FS (s2:Int)∧(FR FS (r:Int):Value)=FR FS (r2:Int)∧O≤s2∧s2≤r2∧r2≤U∧Hid (s2=O∨∀ i k (hi:i<A.length) (hk:k<B.length),s2=a+i+1→nn=s2+m+k→bS J A[i] B[k]=true)∧Hid (r2=U∨∀ i k (hi:i<A.length) (hk:k<B.length),r2=a+i→nn=1+r2+m+k→bS J A[i] B[k]=false)∧Hid (aH y G rest (P++(A++(B++Q))) Z)):=Fx (fun Z kx=>by
        refine ⟨ce+1,r,rfl,rfl,by omega,by omega,N,Fx (.inr fun i' k' hi' hk' e1 e2=>?_),HR,Fx (HI.out.keep kx)⟩;obtain rfl:i'=i:=by omega
        obtain rfl:k'=k:=by omega
        rw[a6,a5];exact nq (by rw[a7];exact b0))
      have b7:Hid (r-(ce+1)<r-s):=Fx (by omega);clear a6 a5 a7 hq hi hd hk hg hf b4 ba ad b6 N;go_upto_region 35 with (fail)
      rw[a4.out];clear bo;refine ah (by kernel_rfl) (by kernel_rfl) ?_;repeat (go_big_quiet_step (with_reducible exact KW.of cz.out _))
      refine wpQuiet_nil ?_;intro Z kx;have HN:=Fx (bk.out Z kx);clear x1 x2 lG kx;go_wp2;go_roundw
      case rel=>exact HN.out
      case measure=>simpa[intOf] using b7.out
  · have bz:¬(s:Int)<(r:Int):=by omega
    obtain rfl:s=r:=by omega
    obtain ⟨e,cv⟩:∃ e,nn-s=e:=⟨_,rfl⟩
    obtain ⟨A1,I,B1,M,eA,eB,cr,q1,q2,q3,q4,q5,q6,q7⟩:=Co HC.out.ord c6.out co.out HG.out.2.1 HG.out.2.2.1 HG.out.2.2.2.2.2.2.1 HG.out.2.2.2.2.2.2.2.1 HF.out ad N cv HL.out HR.out;have dt:A1.length+I.length=A.length:=by rw[←eA,Fz]
    have dr:B1.length+M.length=B.length:=by rw[←eB,Fz]
    have b3:lM (bS J) (A1++I):=by rw[eA];exact c6.out
    have cg:lM (bS J) (B1++M):=by rw[eB];exact co.out
    have ds:=(List.pairwise_append.1 b3).1;have cm:=(List.pairwise_append.1 b3).2.1;have c8:=(List.pairwise_append.1 cg).1;have cq:=(List.pairwise_append.1 cg).2.1;have c3:∀ z∈A1,S z:=fun z hz=>cd.out z (by rw[←eA];exact List.mem_append_left _ hz)
    have c0:∀ z∈I,S z:=fun z hz=>cd.out z (by rw[←eA];exact List.mem_append_right _ hz)
    have ct:∀ z∈B1,S z:=fun z hz=>b9.out z (by rw[←eB];exact List.mem_append_left _ hz)
    have c4:∀ z∈M,S z:=fun z hz=>b9.out z (by rw[←eB];exact List.mem_append_right _ hz)
    have c9:aH y G rest (P++(A1++(I++(B1++(M++Q))))) wr:=by
      have h3:=HI.out;rw[←eA,←eB] at h3;simpa using h3
    obtain ⟨g1,-,-,g4,g5,g6,g7,-,-⟩:=HG.out;have hq:a=P.length∧s=a+A1.length∧m=s+I.length∧e=m+B1.length∧b=e+M.length∧D=s+B1.length∧e=D+I.length∧b+Q.length=n∧a<D∧D<b∧A1.length+I.length=A.length∧B1.length+M.length=B.length:=⟨g1,q1,q2,q3,q4,q5,q6,g4,by omega,by omega,dt,dr⟩;have d7:IntKind.i64.wrap ((nn:Int)-(s:Int))=(e:Int):=by simp[IntKind.wrap,IntKind.bits,IntKind.signed];omega
    clear q1 q2 q3 q4 q5 q6 q7 g1 g4 g5 g6 g7 dt dr cv b3 cg eA eB;have HQ:=Fx hq;have dq:=Fx cr;have bq:=Fx c9;have c1:Hid (0<I.length→0<B1.length→∀ w,aH y G rest (P++(A1++(I++(B1++(M++Q))))) w→Calls Tryz.prog 198 #[FN (some ⟨G,0,none⟩) n c,FR FS (s:Int),FR FS (m:Int),FR FS (e:Int),.func (.func kf) #[] cap] w fun ev w'=>ev=FP (.tuple #[])∧aH y G rest (P++(A1++(B1++(I++(M++Q))))) w'):=Fx (fun p1 p2 w h=>by
      have h3:=vB y G rest n c hn (.func (.func kf) #[] cap) (P++A1) I B1 (M++Q) p1 p2 (by simp only[Fz];omega) s m e (by simp only[Fz];omega) (by simp only[Fz];omega) (by simp only[Fz];omega) w (by simpa using h);simpa using h3)
    have dv:Hid (0<A1.length→0<B1.length→∀ w,aH y G rest (P++(A1++(B1++(I++(M++Q))))) w→Calls Tryz.prog 186 #[FN (some ⟨G,0,none⟩) n c,FR FS (a:Int),FR FS (s:Int),FR FS (D:Int),.func (.func kf) #[] cap] w fun ev w'=>ev=FP (.tuple #[])∧aH y G rest (P++(mg (bS J) A1 B1++(I++(M++Q)))) w'):=Fx (fun p1 p2 w h =>
      cu.out P A1 B1 (I++(M++Q)) p1 p2 (by omega) c3 ct ds c8 (by simp only[Fz];omega) a s D (by omega) (by omega) (by omega) w h)
    have d5:Hid (0<I.length→0<M.length→∀ w,aH y G rest (P++(mg (bS J) A1 B1++(I++(M++Q)))) w→Calls Tryz.prog 186 #[FN (some ⟨G,0,none⟩) n c,FR FS (D:Int),FR FS (e:Int),FR FS (b:Int),.func (.func kf) #[] cap] w fun ev w'=>ev=FP (.tuple #[])∧aH y G rest (P++(mg (bS J) A1 B1++(mg (bS J) I M++Q))) w'):=Fx (fun p1 p2 w h=>by
      have bm:=Dk (le:=bS J) A1 B1;have h3:=cu.out (P++mg (bS J) A1 B1) I M Q p1 p2 (by omega) c0 c4 cm cq (by rw[Fz,bm];omega) D e b (by rw[Fz,bm];omega) (by rw[Fz,bm];omega) (by rw[Fz,bm];omega) w (by simpa using h);simpa using h3)
    have E1:Hid (I.length=0∨B1.length=0→P++(A1++(I++(B1++(M++Q))))=P++(A1++(B1++(I++(M++Q))))):=Fx (fun h=>by
      rcases h with h|h
      · rw[List.eq_nil_of_length_eq_zero h];simp
      · rw[List.eq_nil_of_length_eq_zero h];simp)
    have E2:Hid (A1.length=0∨B1.length=0→P++(A1++(B1++(I++(M++Q))))=P++(mg (bS J) A1 B1++(I++(M++Q)))):=Fx (fun h=>by
      rcases h with h|h
      · rw[List.eq_nil_of_length_eq_zero h];simp[fL]
      · rw[List.eq_nil_of_length_eq_zero h];simp[fK])
    have E3:Hid (I.length=0∨M.length=0→P++(mg (bS J) A1 B1++(I++(M++Q)))=P++(mg (bS J) A1 B1++(mg (bS J) I M++Q))):=Fx (fun h=>by
      rcases h with h|h
      · rw[List.eq_nil_of_length_eq_zero h];simp[fL]
      · rw[List.eq_nil_of_length_eq_zero h];simp[fK])
    clear ds cm c8 cq cr c3 c0 ct c4 c9 hq HI HL HR HF ad b6 N d6;go_upto_region 39 with (fail)
    clear d7 bz;obtain ⟨bc,br⟩:∃ B,decide (s<m∧m<e)=B:=⟨_,rfl⟩
    have a1:=Fx br;clear br;go_cut [185] from 178 to 185 (fun v Z=>v= .bool bc∧Hid (aH y G rest (P++(A1++(I++(B1++(M++Q))))) Z))
    case first =>
      by_cases q1:s<m
      · have a8:(s:Int)<(m:Int):=by omega
        by_cases q2:m<e
        · have bb:(m:Int)<(e:Int):=by omega
          have HV:Hid (bc=true):=Fx (by rw[←a1.out];exact decide_eq_true ⟨q1,q2⟩);clear q1 q2;go_wp2;go_meet;exact ⟨by rw[HV.out],bq⟩
        · have bb:¬(m:Int)<(e:Int):=by omega
          have HV:Hid (bc=false):=Fx (by rw[←a1.out];exact decide_eq_false fun h=>q2 h.2);clear q1 q2;go_wp2;go_meet;exact ⟨by rw[HV.out],bq⟩
      · have a8:¬(s:Int)<(m:Int):=by omega
        have HV:Hid (bc=false):=Fx (by rw[←a1.out];exact decide_eq_false fun h=>q1 h.1);clear q1;go_wp2;go_meet;exact ⟨by rw[HV.out],bq⟩
    obtain ⟨rfl,av⟩:=hcut;obtain ⟨z0,rfl⟩:∃ z:World,z=wc:=⟨_,rfl⟩
    clear bq;go_upto_if 185 with (fail)
    go_cut [] from 178 to 191 (fun Z=>Hid (aH y G rest (P++(A1++(B1++(I++(M++Q))))) Z))
    case first =>
      cases hb:bc with
      | true =>
        have a9:=Fx (c1.out (by have hq:=HQ.out;have h:=of_decide_eq_true (a1.out.trans hb);omega) (by have hq:=HQ.out;have h:=of_decide_eq_true (a1.out.trans hb);omega) _ av.out);clear hb;go_wp2_with ((with_reducible refine a9.out.mono ?_);rintro ev w6 ⟨rfl,h6⟩;have a2:=Fx h6)
        go_meet;exact a2
      | false =>
        have a2:Hid (aH y G rest (P++(A1++(B1++(I++(M++Q))))) z0):=Fx (by
          rw[←E1.out (by have hq:=HQ.out;have h:=of_decide_eq_false (a1.out.trans hb);omega)];exact av.out)
        clear hb;go_wp2;go_meet;exact a2
    have a2:=hcut;obtain ⟨u0,rfl⟩:∃ z:World,z=wc:=⟨_,rfl⟩
    clear hcut av;go_upto_region 41 with (fail)
    obtain ⟨be,bX⟩:∃ B,decide (a<s∧s<D)=B:=⟨_,rfl⟩
    have a0:=Fx bX;clear bX;go_cut [199] from 192 to 199 (fun v Z=>v= .bool be∧Hid (aH y G rest (P++(A1++(B1++(I++(M++Q))))) Z))
    case first =>
      by_cases q1:a<s
      · have a8:(a:Int)<(s:Int):=by omega
        by_cases q2:s<D
        · have bb:(s:Int)<(D:Int):=by omega
          have HV:Hid (be=true):=Fx (by rw[←a0.out];exact decide_eq_true ⟨q1,q2⟩);clear q1 q2;go_wp2;go_meet;exact ⟨by rw[HV.out],a2⟩
        · have bb:¬(s:Int)<(D:Int):=by omega
          have HV:Hid (be=false):=Fx (by rw[←a0.out];exact decide_eq_false fun h=>q2 h.2);clear q1 q2;go_wp2;go_meet;exact ⟨by rw[HV.out],a2⟩
      · have a8:¬(a:Int)<(s:Int):=by omega
        have HV:Hid (be=false):=Fx (by rw[←a0.out];exact decide_eq_false fun h=>q1 h.1);clear q1;go_wp2;go_meet;exact ⟨by rw[HV.out],a2⟩
    obtain ⟨rfl,av⟩:=hcut;obtain ⟨z1,rfl⟩:∃ z:World,z=wc:=⟨_,rfl⟩
    clear a2;go_upto_if 199 with (fail)
    go_cut [] from 192 to 205 (fun Z=>Hid (aH y G rest (P++(mg (bS J) A1 B1++(I++(M++Q)))) Z))
    case first =>
      cases hb:be with
      | true =>
        have a9:=Fx (dv.out (by have hq:=HQ.out;have h:=of_decide_eq_true (a0.out.trans hb);omega) (by have hq:=HQ.out;have h:=of_decide_eq_true (a0.out.trans hb);omega) _ av.out);clear hb;go_wp2_with ((with_reducible refine a9.out.mono ?_);rintro ev w6 ⟨rfl,h6⟩;have a3:=Fx h6)
        go_meet;exact a3
      | false =>
        have a3:Hid (aH y G rest (P++(mg (bS J) A1 B1++(I++(M++Q)))) z1):=Fx (by
          rw[←E2.out (by have hq:=HQ.out;have h:=of_decide_eq_false (a0.out.trans hb);omega)];exact av.out)
        clear hb;go_wp2;go_meet;exact a3
    have a3:=hcut;obtain ⟨u1,rfl⟩:∃ z:World,z=wc:=⟨_,rfl⟩
    clear hcut av;go_upto_region 43 with (fail)
    obtain ⟨bj,bv⟩:∃ B,decide (D<e∧e<b)=B:=⟨_,rfl⟩
    have aA:=Fx bv;clear bv;go_cut [213] from 206 to 213 (fun v Z=>v= .bool bj∧Hid (aH y G rest (P++(mg (bS J) A1 B1++(I++(M++Q)))) Z))
    case first =>
      by_cases q1:D<e
      · have a8:(D:Int)<(e:Int):=by omega
        by_cases q2:e<b
        · have bb:(e:Int)<(b:Int):=by omega
          have HV:Hid (bj=true):=Fx (by rw[←aA.out];exact decide_eq_true ⟨q1,q2⟩);clear q1 q2;go_wp2;go_meet;exact ⟨by rw[HV.out],a3⟩
        · have bb:¬(e:Int)<(b:Int):=by omega
          have HV:Hid (bj=false):=Fx (by rw[←aA.out];exact decide_eq_false fun h=>q2 h.2);clear q1 q2;go_wp2;go_meet;exact ⟨by rw[HV.out],a3⟩
      · have a8:¬(D:Int)<(e:Int):=by omega
        have HV:Hid (bj=false):=Fx (by rw[←aA.out];exact decide_eq_false fun h=>q1 h.1);clear q1;go_wp2;go_meet;exact ⟨by rw[HV.out],a3⟩
    obtain ⟨rfl,av⟩:=hcut;obtain ⟨z2,rfl⟩:∃ z:World,z=wc:=⟨_,rfl⟩
    clear a3
    cases hb:bj with
    | true =>
      have a9:=Fx (d5.out (by have hq:=HQ.out;have h:=of_decide_eq_true (aA.out.trans hb);omega) (by have hq:=HQ.out;have h:=of_decide_eq_true (aA.out.trans hb);omega) _ av.out);clear hb;go_wp2_with ((with_reducible refine a9.out.mono ?_);rintro ev w6 ⟨rfl,h6⟩;have b8:=Fx h6)
      have ca:Hid (aH y G rest (P++(mg (bS J) A B++Q)) w6):=Fx (by
        rw[dq.out,List.append_assoc];exact b8.out)
      go_end0
      exact ⟨rfl,ca.out⟩
    | false =>
      have b8:Hid (aH y G rest (P++(mg (bS J) A1 B1++(mg (bS J) I M++Q))) z2):=Fx (by
        rw[←E3.out (by have hq:=HQ.out;have h:=of_decide_eq_false (aA.out.trans hb);omega)];exact av.out)
      clear hb;go_wp2;have ca:Hid (aH y G rest (P++(mg (bS J) A B++Q)) z2):=Fx (by
        rw[dq.out,List.append_assoc];exact b8.out)
      go_end0
      exact ⟨rfl,ca.out⟩
end
section
open Go.RowKit Go.BigFrame
theorem AO (y:World) (G:Nat) (rest:List Value) (n c:Nat) (hn:n≤1000000) (O:Nat) (cap:Array Value) (I:SR→SR→Int) (S:SR→Prop) (hC:tG y G O cap I S):∀ N,AN y G rest n c O cap I S N
 | 0=>fun _ _ _ _ _ _ h=>absurd h (by omega)
 | N+1=>by
  have ih:=AO y G rest n c hn O cap I S hC N;intro P A B Q hA hB hN M J U Z D a m b ha hm hb w h;by_cases av:A.length=1
  ·match A,av with
   | [x],_ =>
    have h':aH y G rest (P++(x::(B++Q))) w:=h;have hm':m=P.length+1:=hm;have hb':b=P.length+1+B.length:=hb;have hlen':P.length+1+B.length+Q.length=n:=D;exact vA y G rest n c hn O cap I S hC P x B Q (M x (by simp)) J hB Z hlen' a m b ha hm' hb' w h'
  by_cases ad:B.length=1
  ·match B,ad with
   | [z],_ =>
    have hb':b=P.length+A.length+1:=hb;have hlen':P.length+A.length+1+Q.length=n:=D;exact tH y G rest n c hn O cap I S hC P A z Q M (J z (by simp)) (by omega) U hlen' a m b ha hm hb' w h
  have ih':AN y G rest n c O cap I S (A.length+B.length):=fun P' A' B' Q' h1 h2 h3=>ih P' A' B' Q' h1 h2 (by omega)
  exact vC y G rest n c hn O cap I S hC P A B Q ih' M J (by omega) (by omega) U Z D a m b ha hm hb w h
end
section
open Go.RowKit Go.BigFrame
attribute [local go_sem] ag ab ae af KW.cell
theorem vD (y:World) (G:Nat) (rest:List Value) (n c:Nat) (hn:n≤1000000) (kf:Nat) (cap:Array Value) (D:SR→SR→Int) (S:SR→Prop) (hC:tG y G kf cap D S) (l:List SR) (hS:∀ z∈l,S z) (hl:l.length=n) (w:World) (h:aH y G rest l w) :
  Calls Tryz.prog 169 #[FN (some ⟨G,0,none⟩) n c,FR FS (n:Int),.func (.func kf) #[] cap] w fun e w'=>e=FP (.tuple #[])∧aH y G rest (eh (bS D) l) w':=by
 have HS:=Fx h;have a7:=Fx hS;have HC:=Fx hC;have HL:=Fx hl;clear h hS hC hl;go_enter Tryz.func169,Tryz.ntmps169
 go_wp2_with fail
 go_loopw [7,8] (fun va vb wr=>∃ (X:List SR) (a b:Nat),va=FR FS (a:Int)∧vb=FR FS (b:Int)∧b=a+20∧Hid (X.length=a)∧a≤n∧Hid (X++nb (bS D) 20 (l.drop a)=nb (bS D) 20 l)∧Hid (aH y G rest (X++l.drop a) wr)) (fun _ vb _=>n+40-(intOf vb).toNat)
 case atStart=>exact ⟨[],0,20,rfl,rfl,rfl,Fx rfl,FF _,Fx (by simp),Fx (by simpa using HS.out)⟩
 clear HS;obtain ⟨X,a,b,rfl,rfl,hb,HX,ad,HE,HI⟩:=hrel;by_cases N:b≤n
 ·have a1:(b:Int)≤(n:Int):=by omega
  have bj:IntKind.i64.wrap ((b:Int)+20)=((b+20:Nat):Int):=by simp[IntKind.wrap,IntKind.bits,IntKind.signed];omega
  have aA:=HX.out;have I:=HL.out;have a5:Hid (Calls Tryz.prog 185 #[FN (some ⟨G,0,none⟩) n c,FR FS (a:Int),FR FS (b:Int),.func (.func kf) #[] cap] wr fun e w'=>e=FP (.tuple #[])∧aH y G rest (X++(eh (bS D) ((l.drop a).take 20)++l.drop b)) w'):=Fx (by
   have e:l.drop a=(l.drop a).take 20++l.drop b:=by
    have h1:=List.take_append_drop 20 (l.drop a);rw[List.drop_drop,←hb] at h1;exact h1.symm
   have U:=HI.out;rw[e] at U;exact ka y G rest n c hn kf cap D S HC.out X ((l.drop a).take 20) (l.drop b) (fun z O=>a7.out z (List.mem_of_mem_drop (List.mem_of_mem_take O))) (by rw[FH,List.length_drop,List.length_drop];omega) a b aA.symm (by rw[FH,List.length_drop];omega) wr U)
  have HN:Hid (∀ M,aH y G rest (X++(eh (bS D) ((l.drop a).take 20)++l.drop b)) M→∃ (X:List SR) (Z b2:Nat),(FR FS (b:Int):Value)=FR FS (Z:Int)∧(FR FS ((b+20:Nat):Int):Value)=FR FS (b2:Int)∧b2=Z+20∧Hid (X.length=Z)∧Z≤n∧Hid (X++nb (bS D) 20 (l.drop Z)=nb (bS D) 20 l)∧Hid (aH y G rest (X++l.drop Z) M)):=Fx (fun M h=>by
   refine ⟨X++eh (bS D) ((l.drop a).take 20),b,b+20,rfl,rfl,rfl,Fx ?_,N,Fx ?_,Fx (by simpa using h)⟩
   ·rw[Fz,bJ,FH,List.length_drop]
    omega
   rw[←HE.out,jA (by decide) (l:=l.drop a) (by rw[List.length_drop];omega),List.drop_drop,←hb];simp)
  clear aA I hb ad;go_wp2_with ((with_reducible refine a5.out.mono ?_);rintro e w5 ⟨rfl,h5⟩)
  go_roundw
  case rel=>exact HN.out _ h5
  case measure=>simp[intOf];omega
 have a1:¬(b:Int)≤(n:Int):=by omega
 have aA:=HX.out;have I:=HL.out;have a5:Hid (Calls Tryz.prog 185 #[FN (some ⟨G,0,none⟩) n c,FR FS (a:Int),FR FS (n:Int),.func (.func kf) #[] cap] wr fun e w'=>e=FP (.tuple #[])∧aH y G rest (nb (bS D) 20 l) w'):=Fx (by
  have U:=ka y G rest n c hn kf cap D S HC.out X (l.drop a) [] (fun z O=>a7.out z (List.mem_of_mem_drop O)) (by rw[List.length_drop];simp;omega) a n aA.symm (by rw[List.length_drop];omega) wr (by simpa using HI.out);rw[←HE.out,eP (l:=l.drop a) (by rw[List.length_drop];omega)];simpa using U)
 clear aA I hb ad HI HE HX N;go_wp2_with ((with_reducible refine a5.out.mono ?_);rintro e w5 ⟨rfl,h5⟩;have H5:=Fx h5;clear h5)
 go_loopw [6,7,8,9] (fun v6 _ _ _ M=>∃ s:Nat,v6=FR FS (s:Int)∧20≤s∧s≤2000000∧Hid (aH y G rest (nb (bS D) s l) M)) (fun v6 _ _ _ _=>n-(intOf v6).toNat)
 case atStart=>exact ⟨20,rfl,Fy _,by omega,H5⟩
 clear H5;obtain ⟨s,rfl,av,a9,HI⟩:=hrel;obtain ⟨u,rfl⟩:∃ u:World,u=wr:=⟨_,rfl⟩
 by_cases a6:s<n
 ·have be:(s:Int)<(n:Int):=by omega
  obtain ⟨d,hd⟩:∃ d,2*s=d:=⟨_,rfl⟩
  have bl:IntKind.i64.wrap (2*(s:Int))=(d:Int):=by simp[IntKind.wrap,IntKind.bits,IntKind.signed];omega
  have bk:IntKind.i64.wrap ((s:Int)*2)=(d:Int):=by simp[IntKind.wrap,IntKind.bits,IntKind.signed];omega
  have HD:=Fx hd;have bb:Hid (20≤s∧s<n):=Fx ⟨av,a6⟩;clear hd av a9 a6;go_wp2_with fail
  go_loopw [7,8] (fun va vb M=>∃ (X:List SR) (a b:Nat),va=FR FS (a:Int)∧vb=FR FS (b:Int)∧b=a+d∧Hid (X.length=a)∧a≤n∧Hid (X++nb (bS D) d (l.drop a)=nb (bS D) d l)∧Hid (aH y G rest (X++nb (bS D) s (l.drop a)) M)) (fun _ vb _=>n+2*d-(intOf vb).toNat)
  case atStart=>exact ⟨[],0,d,rfl,rfl,by omega,Fx rfl,FF _,Fx (by simp),Fx (by simpa using HI.out)⟩
  clear HI;obtain ⟨X,a,b,rfl,rfl,hb,HX,ad,HE,HI⟩:=hrel;obtain ⟨u2,rfl⟩:∃ u:World,u=wr:=⟨_,rfl⟩
  have hx:=HX.out;have I:=HL.out;have hd:=HD.out;have a4:=bb.out;obtain ⟨m1,a3⟩:∃ m1,a+s=m1:=⟨_,rfl⟩
  have bm:IntKind.i64.wrap ((a:Int)+(s:Int))=(m1:Int):=by simp[IntKind.wrap,IntKind.bits,IntKind.signed];omega
  have pH:(l.drop a).length=n-a:=by rw[List.length_drop];omega
  have J:∀ (q:List SR),(∀ z∈q,z∈l)→∀ z∈eh (bS D) q,S z:=fun q hq z O=>a7.out z (hq z ((gK q).mem_iff.1 O))
  by_cases N:b≤n
  ·have a1:(b:Int)≤(n:Int):=by omega
   have bj:IntKind.i64.wrap ((b:Int)+(d:Int))=((b+d:Nat):Int):=by simp[IntKind.wrap,IntKind.bits,IntKind.signed];omega
   obtain ⟨e1,e2⟩:=Cq HC.out.ord (bs:=s) (by omega) (l:=l.drop a) (by omega);rw[hd,List.drop_drop,List.drop_drop,←hb] at e1;rw[hd,List.drop_drop] at e2;have a8:Hid (Calls Tryz.prog 186 #[FN (some ⟨G,0,none⟩) n c,FR FS (a:Int),FR FS (m1:Int),FR FS (b:Int),.func (.func kf) #[] cap] u2 fun e w'=>e=FP (.tuple #[])∧aH y G rest (X++(eh (bS D) ((l.drop a).take d)++nb (bS D) s (l.drop b))) w'):=Fx (by
    have U:=HI.out;rw[e1] at U;rw[←e2];exact AO y G rest n c hn kf cap D S HC.out _ X _ _ _ (by rw[bJ,FH];omega) (by rw[bJ,FH,List.length_drop];omega) (Nat.lt_succ_self _) (J _ fun z O=>List.mem_of_mem_drop (List.mem_of_mem_take O)) (J _ fun z O=>List.mem_of_mem_drop (List.mem_of_mem_take O)) (kT HC.out.ord _) (kT HC.out.ord _) (by rw[bJ,bJ,Cp,FH,FH,List.length_drop,List.length_drop,List.length_drop];omega) a m1 b hx.symm (by rw[bJ,FH];omega) (by rw[bJ,bJ,FH,FH,List.length_drop,List.length_drop];omega) u2 U)
   have HN:Hid (∀ M,aH y G rest (X++(eh (bS D) ((l.drop a).take d)++nb (bS D) s (l.drop b))) M→∃ (X:List SR) (Z b2:Nat),(FR FS (b:Int):Value)=FR FS (Z:Int)∧(FR FS ((b+d:Nat):Int):Value)=FR FS (b2:Int)∧b2=Z+d∧Hid (X.length=Z)∧Z≤n∧Hid (X++nb (bS D) d (l.drop Z)=nb (bS D) d l)∧Hid (aH y G rest (X++nb (bS D) s (l.drop Z)) M)):=Fx (fun M h=>by
    refine ⟨X++eh (bS D) ((l.drop a).take d),b,b+d,rfl,rfl,rfl,Fx ?_,N,Fx ?_,Fx (by simpa using h)⟩
    ·rw[Fz,bJ,FH]
     omega
    rw[←HE.out,jA (by omega) (l:=l.drop a) (by omega),List.drop_drop,←hb];simp)
   have a0:Hid (n+2*d-(b+d)<n+2*d-b):=Fx (by omega);clear hx I hd a4 a3 pH J e1 e2 hb ad N;go_wp2_with ((with_reducible refine a8.out.mono ?_);rintro e w5 ⟨rfl,h5⟩)
   go_roundw
   case rel=>exact HN.out _ h5
   case measure=>have:=a0.out;simp[intOf];omega
  have a1:¬(b:Int)≤(n:Int):=by omega
  have HN:Hid (∀ M,aH y G rest (nb (bS D) d l) M→∃ s2:Nat,(FR FS (d:Int):Value)=FR FS (s2:Int)∧20≤s2∧s2≤2000000∧Hid (aH y G rest (nb (bS D) s2 l) M)):=Fx (fun M h=>⟨d,rfl,by omega,by omega,Fx h⟩);have a0:Hid (n-d<n-s):=Fx (by omega);have hE:=HE.out;rw[eP (l:=l.drop a) (by omega)] at hE;by_cases ba:m1<n
  ·have bc:(m1:Int)<(n:Int):=by omega
   obtain ⟨e1,e2⟩:=AP HC.out.ord (bs:=s) (by omega) (l:=l.drop a) (by omega) (by omega);have a8:Hid (Calls Tryz.prog 186 #[FN (some ⟨G,0,none⟩) n c,FR FS (a:Int),FR FS (m1:Int),FR FS (n:Int),.func (.func kf) #[] cap] u2 fun e w'=>e=FP (.tuple #[])∧aH y G rest (nb (bS D) d l) w'):=Fx (by
    have U:=HI.out;rw[e1] at U;have h3:=AO y G rest n c hn kf cap D S HC.out _ X (eh (bS D) ((l.drop a).take s)) (eh (bS D) ((l.drop a).drop s)) [] (by rw[bJ,FH];omega) (by rw[bJ,List.length_drop];omega) (Nat.lt_succ_self _) (J _ fun z O=>List.mem_of_mem_drop (List.mem_of_mem_take O)) (J _ fun z O=>List.mem_of_mem_drop (List.mem_of_mem_drop O)) (kT HC.out.ord _) (kT HC.out.ord _) (by simp only[bJ,FH,List.length_drop,List.length_nil];omega) a m1 n hx.symm (by rw[bJ,FH];omega) (by simp only[bJ,FH,List.length_drop];omega) u2 (by simpa using U);rw[e2,List.append_nil,hE] at h3;exact h3)
   clear hx I hd a4 a3 pH J e1 e2 hb ad N hE ba;go_wp2_with ((with_reducible refine a8.out.mono ?_);rintro e w5 ⟨rfl,h5⟩)
   go_roundw
   case rel=>exact HN.out _ h5
   case measure=>have:=a0.out;simp[intOf];omega
  have bc:¬(m1:Int)<(n:Int):=by omega
  have HF:=HN.out u2 (by
   have U:=HI.out;rw[eP (l:=l.drop a) (by omega),hE] at U;exact U)
  have HF':=Fx HF;clear HF hx I hd a4 a3 pH J hb ad N hE ba;go_wp2;go_roundw
  case rel=>exact HF'.out
  case measure=>have:=a0.out;simp[intOf];omega
 have be:¬(s:Int)<(n:Int):=by omega
 have HF:Hid (aH y G rest (eh (bS D) l) u):=Fx (by
  have h:=HI.out;rw[eP (by have:=HL.out;omega)] at h;exact h)
 clear av a9 a6 HI;go_wp2;go_end0
 exact ⟨rfl,HF.out⟩
theorem oW (y:World) (G:Nat) (rest:List Value) (n c:Nat) (U:n≤1000000) (I:Nat) (cap:Array Value) (D:SR→SR→Int) (S:SR→Prop) (M:tG y G I cap D S) (l:List SR) (N:∀ z∈l,S z) (O:l.length=n) (w:World) (h:aH y G rest l w) :
  Calls Tryz.prog 141 #[FN (some ⟨G,0,none⟩) n c,.func (.func I) #[] cap] w fun e w'=>e=FP (.tuple #[])∧aH y G rest (eh (bS D) l) w':=by
 have J:=Fx (vD y G rest n c U I cap D S M l N O w h);clear h N M O;go_enter Tryz.func141,Tryz.ntmps141
 go_wp2_with ((with_reducible refine J.out.mono ?_);rintro e w5 ⟨rfl,Z⟩)
 go_end0
 exact ⟨rfl,Z⟩
end
end Go.Proofs.YtecpeogejjibaaaGreatDoor
