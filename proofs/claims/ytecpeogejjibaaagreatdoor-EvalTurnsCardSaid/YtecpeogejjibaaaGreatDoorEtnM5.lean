/- slices.Equal over columns and over values, EqualFunc over rows; foremankeep.same. slices.swapRangeCmpFunc at rows. slices.insertionSortCmpFunc at rows. slices.symMergeCmpFunc at rows: one ahead. slices.symMergeCmpFunc at rows: one behind. slices.rotateCmpFunc at rows. slices.symMergeCmpFunc at rows, whole. slices.symMergeCmpFunc at rows, whole. slices.stableCmpFunc and SortStableFunc at rows. -/
import Derived.Test.YtecpeogejjibaaaGreatDoorEtnM2
import Derived.Test.YtecpeogejjibaaaGreatDoorEtnM3
import Derived.Test.YtecpeogejjibaaaGreatDoorEtnM4
import Derived.Deep.CutBlock
import Derived.Deep.DeepCutAuto
import Derived.Deep.CutRange
set_option linter.unusedSimpArgs false
set_option linter.unusedVariables false
set_option maxRecDepth 100000
set_option maxHeartbeats 16000000
namespace Go.Proofs.YtecpeogejjibaaaGreatDoor
open Go.Lib renaming hid → Fk
open _root_.Nat renaming le_refl → Fm, zero_le → Fu
open _root_.List renaming length_append → Fo, getElem?_eq_getElem → Fp, getElem_mem → Fs, length_take → Fw
open aa renaming refl → Fz
open Go.Value renaming slice → FD, pointer → FE, int → FH
open Go.Ending renaming returned → FF
open Go.IntKind renaming i64 → FI
section
open Go.RowKit
attribute [local go_sem] ag ab ae af
theorem uz (l m:List Vl) (A B:Option Addr) (c d:Nat) (w:World) (hA:Rd w [] 3 A l.length (al l)) (hB:Rd w [] 3 B m.length (al m)) (hl:l.length≤4294967296) (hm:m.length≤4294967296) :
  Calls Tryz.prog 27 #[FD A l.length c,FD B m.length d] w fun e w'=>e=FF (.bool (decide (l=m)))∧aa [] w w':=by
 have HA:=Fk hA;have HB:=Fk hB;clear hA hB;by_cases D:l.length=m.length
 ·have t1:((l.length:Int) != (m.length:Int))=false:=by rw[D];simp
  have t2:(l.length != m.length)=false:=by rw[D];simp
  have HL:=Fk D;clear D;go_enter Tryz.func27,Tryz.ntmps27
  go_wp2;go_loopw [13] (fun i wr=>∃ n:Nat,n≤l.length∧i=FH FI n∧Hid (l.take n=m.take n)∧aa [] w wr) (fun i _=>l.length-(intOf i).toNat)
  case atStart=>exact ⟨0,Fu _,rfl,by rw[List.take_zero,List.take_zero];exact rfl,Fz _ _⟩
  obtain ⟨n,hn,rfl,ad,V⟩:=hrel;by_cases J:n<l.length
  ·have H:n<m.length:=by rw[←HL.out];exact J
   obtain ⟨b,o,rfl,_,hb,hc⟩:=(HA.out.keep V).open' (by omega) (by omega);obtain ⟨b2,o2,rfl,_,av,O⟩:=(HB.out.keep V).open' (by omega) (by omega);have d1:=hc (n*3) _ (ay l n J).1;have d2:=hc (n*3+1) _ (ay l n J).2.1;have d3:=hc (n*3+2) _ (ay l n J).2.2;have e1:=O (n*3) _ (ay m n H).1;have e2:=O (n*3+1) _ (ay m n H).2.1;have e3:=O (n*3+2) _ (ay m n H).2.2;rw[←Nat.add_assoc] at d2 d3 e2 e3;have a1:(0:Int)≤(n:Int):=by omega
   have a0:(n:Int)<(l.length:Int):=by omega
   have aA:(n:Int)<(m.length:Int):=by omega
   have U:l.take (n+1)=l.take n++[l[n]]:=List.take_succ_eq_append_getElem J;have M:m.take (n+1)=m.take n++[m[n]]:=List.take_succ_eq_append_getElem H;have N:l[n]≠m[n]→decide (l=m)=false:=fun h=>by
    rw[decide_eq_false_iff_not];rintro rfl;exact h rfl
   have hq:=Di l[n] m[n];generalize l[n]=x at *;generalize m[n]=y at *;clear hc O;by_cases I:x=y
   ·have hno':Hid (l.take (n+1)=m.take (n+1)):=Fk (by rw[U,M,ad.out,I])
    rw[decide_eq_true I] at hq;clear U M N I;go_wp2_with fail
    go_quiet (fail)
    go_wp2;go_roundw
    case rel=>exact ⟨n+1,by omega,by go_num,hno',V.drewN _⟩
    case measure=>simp[intOf];omega
   have HD:=Fk (N I);rw[decide_eq_false I] at hq;clear U M N I;go_wp2_with fail
   go_quiet (fail)
   go_wp2;go_ret;exact ⟨by rw[HD.out];rfl,V.drewN _⟩
  have Z:Hid (decide (l=m)=true):=Fk (by
   have h:=ad.out;rw[List.take_of_length_le (by omega),List.take_of_length_le (by rw[←HL.out];omega)] at h;exact decide_eq_true h)
  go_wp2;go_ret;exact ⟨by rw[Z.out];rfl,V⟩
 have t1:((l.length:Int) != (m.length:Int))=true:=by rw[bne_iff_ne];omega
 have t2:(l.length != m.length)=true:=by rw[bne_iff_ne];exact D
 have HD:Hid (decide (l=m)=false):=Fk (by rw[decide_eq_false_iff_not];rintro rfl;exact D rfl);clear D;go_enter Tryz.func27,Tryz.ntmps27
 go_wp2;go_ret;exact ⟨by rw[HD.out];rfl,Fz _ _⟩
theorem sl (l m:List Vl) (A B:Option Addr) (c d:Nat) (w:World) (H:Rd w [] 3 A l.length (al l)) (D:Rd w [] 3 B m.length (al m)) (J:l.length≤4294967296) (I:m.length≤4294967296) :
  Calls Tryz.prog 26 #[FD A l.length c,FD B m.length d] w fun e w'=>e=FF (.bool (decide (l=m)))∧aa [] w w':=by
 have M:=Fk (uz l m A B c d w H D J I);clear H D;generalize decide (l=m)=R at *;go_enter Tryz.func26,Tryz.ntmps26
 go_wp2_with (go_at_call 27;refine M.out.mono ?_;rintro e N ⟨rfl,h⟩)
 go_ret;exact ⟨rfl,h⟩
theorem pR (l m:List (List Vl)) (A B:Option Addr) (c d:Nat) (w:World) (hA:cJ w [] A l) (hB:cJ w [] B m) (hl:l.length≤4294967296) (hm:m.length≤4294967296) (av:∀ r∈l,r.length≤4294967296) (a2:∀ r∈m,r.length≤4294967296) :
  Calls Tryz.prog 25 #[FD A l.length c,FD B m.length d,.func (.func 26) #[] #[]] w fun e w'=>e=FF (.bool (decide (l=m)))∧aa [] w w':=by
 have HA:=Fk hA;have HB:=Fk hB;have ba:=Fk av;have bc:=Fk a2;clear hA hB av a2;by_cases D:l.length=m.length
 ·have t1:((l.length:Int) != (m.length:Int))=false:=by rw[D];simp
  have t2:(l.length != m.length)=false:=by rw[D];simp
  have HL:=Fk D;clear D;go_enter Tryz.func25,Tryz.ntmps25
  go_wp2;go_loopw [17] (fun i wr=>∃ n:Nat,n≤l.length∧i=FH FI n∧Hid (l.take n=m.take n)∧aa [] w wr) (fun i _=>l.length-(intOf i).toNat)
  case atStart=>exact ⟨0,Fu _,rfl,by rw[List.take_zero,List.take_zero];exact rfl,Fz _ _⟩
  obtain ⟨n,hn,rfl,a5,Z⟩:=hrel;by_cases N:n<l.length
  ·have M:n<m.length:=by rw[←HL.out];exact N
   obtain ⟨us,bk,a6,a1⟩:=HA.out.keep Z;obtain ⟨b,o,rfl,_,hb,hc⟩:=a6.open' (by omega) (by omega);obtain ⟨bo,be,a4,V⟩:=HB.out.keep Z;obtain ⟨b2,o2,rfl,_,bj,aA⟩:=a4.open' (by omega) (by omega);have d1:=hc n _ (Fp (by omega));have e1:=aA n _ (Fp (by omega));obtain ⟨Ar,cr,ad,a9,a8⟩:=a1 n (by omega) N;obtain ⟨Br,dr,a0,bb,a7⟩:=V n (by omega) M;rw[ad] at d1;rw[a0] at e1;have HH:=Fk (sl l[n] m[n] Ar Br cr dr wr a8 a7 (ba.out _ (Fs N)) (bc.out _ (Fs M)));have bm:(n:Int)<(m.length:Int):=by omega
   have O:l.take (n+1)=l.take n++[l[n]]:=List.take_succ_eq_append_getElem N;have I:m.take (n+1)=m.take n++[m[n]]:=List.take_succ_eq_append_getElem M;have J:l[n]≠m[n]→decide (l=m)=false:=fun h=>by
    rw[decide_eq_false_iff_not];rintro rfl;exact h rfl
   clear ad a0 a9 bb a8 a7 a6 a1 a4 V hc aA;generalize l[n]=x at *;generalize m[n]=y at *;by_cases H:x=y
   ·have hno':Hid (l.take (n+1)=m.take (n+1)):=Fk (by rw[O,I,a5.out,H])
    rw[decide_eq_true H] at HH;clear O I J H;go_wp2_with fail
    refine HH.out.mono ?_;rintro e W2 ⟨rfl,U⟩;go_wp2;go_roundw
    case rel=>exact ⟨n+1,by omega,by go_num,hno',Z.trans U⟩
    case measure=>simp[intOf];omega
   have HD:=Fk (J H);rw[decide_eq_false H] at HH;clear O I J H;go_wp2_with fail
   refine HH.out.mono ?_;rintro e W2 ⟨rfl,U⟩;go_wp2;go_ret;exact ⟨by rw[HD.out];rfl,Z.trans U⟩
  have a3:Hid (decide (l=m)=true):=Fk (by
   have h:=a5.out;rw[List.take_of_length_le (by omega),List.take_of_length_le (by rw[←HL.out];omega)] at h;exact decide_eq_true h)
  go_wp2;go_ret;exact ⟨by rw[a3.out];rfl,Z⟩
 have t1:((l.length:Int) != (m.length:Int))=true:=by rw[bne_iff_ne];omega
 have t2:(l.length != m.length)=true:=by rw[bne_iff_ne];exact D
 have HD:Hid (decide (l=m)=false):=Fk (by rw[decide_eq_false_iff_not];rintro rfl;exact D rfl);clear D;go_enter Tryz.func25,Tryz.ntmps25
 go_wp2;go_ret;exact ⟨by rw[HD.out];rfl,Fz _ _⟩
structure nz (w:World) (t:Tb) (A B:Option Addr):Prop where
 cols:Rd w [] 2 A t.cols.length (ai t.cols)
 rows:cJ w [] B t.rows
 ln:t.cols.length≤4294967296
 lm:t.rows.length≤4294967296
 lr:∀ r∈t.rows,r.length≤4294967296
theorem nz.quiet {w w':World} {t:Tb} {A B:Option Addr} (h:nz w t A B) (D:aa [] w w'):nz w' t A B:=⟨h.cols.keep D,h.rows.keep D,h.ln,h.lm,h.lr⟩
theorem zH (t u:Tb) (A B J I:Option Addr) (c d c2 M:Nat) (w:World) (H:nz w t A B) (D:nz w u J I) :
  Calls Tryz.prog 12 #[jR A t.cols.length c B t.rows.length d,jR J u.cols.length c2 I u.rows.length M] w fun e w'=>e=FF (.bool (decide (t=u)))∧aa [] w w':=by
 show Calls _ _ #[.agg #[FD A t.cols.length c,FD B t.rows.length d],.agg #[FD J u.cols.length c2,FD I u.rows.length M]] w _;have hd:decide (t=u)=(decide (t.cols=u.cols)&&decide (t.rows=u.rows)):=by
  obtain ⟨a,b⟩:=t;obtain ⟨a2,b2⟩:=u;rw[Bool.eq_iff_iff];simp
 rw[hd];have U:=fun W (q:aa [] w W)=>im t.cols u.cols A J c c2 W (H.quiet q).cols (D.quiet q).cols H.ln D.ln
 have V:=fun W (q:aa [] w W)=>pR t.rows u.rows B I d M W (H.quiet q).rows (D.quiet q).rows H.lm D.lm H.lr D.lr
 have O:=Fk U;have Z:=Fk V;clear U V hd;generalize decide (t.cols=u.cols)=P at *;generalize decide (t.rows=u.rows)=Q at *
 cases P with
 | false =>
  go_enter Tryz.func12,Tryz.ntmps12
  go_wp2_with (go_at_call 14;refine (O.out _ (((Fz _ _).alloc _).alloc _)).mono ?_;rintro e W2 ⟨rfl,h⟩)
  go_ret;exact ⟨rfl,(((Fz _ _).alloc _).alloc _).trans h⟩
 | true =>
  go_enter Tryz.func12,Tryz.ntmps12
  go_wp2_with (go_at_call 14;refine (O.out _ (((Fz _ _).alloc _).alloc _)).mono ?_;rintro e W2 ⟨rfl,h⟩;have q1:=h.cell_of (p:=⟨w.heap.size,1,none⟩) (v:=FD B t.rows.length d) (by simp) (by simp);have q2:=h.cell_of (p:=⟨w.heap.size+1,1,none⟩) (v:=FD I u.rows.length M) (by simp) (by simp))
  refine (Z.out _ ((((Fz _ _).alloc _).alloc _).trans h)).mono ?_;rintro e W3 ⟨rfl,N⟩;go_wp2;go_ret;exact ⟨rfl,((((Fz _ _).alloc _).alloc _).trans h).trans N⟩
end
section
open Go.RowKit Go.BigFrame
attribute [local go_sem] ag ab ae af KW.cell
theorem jw {α:Type} {l:List α} {i:Nat} (h:i<l.length):l.drop i=l[i]::l.drop (i+1):=List.drop_eq_getElem_cons h
theorem lA {α:Type} {l:List α} {i:Nat} (h:i<l.length):l.take (i+1)=l.take i++[l[i]]:=by rw[List.take_add_one,Fp h];rfl
theorem gD (y:World) (G:Nat) (rest:List Value) (n c:Nat) (hn:n≤1000000) (cv:Value) (P A M B Q:List SR) (b9:B.length=A.length) (a6:P.length+A.length+M.length+B.length+Q.length=n) (a b k:Nat) (ha:a=P.length) (I:b=P.length+A.length+M.length) (hk:k=A.length) (w:World) (h:aG y G rest (P++(A++(M++(B++Q)))) w) :
  Calls Tryz.prog 203 #[FD (some ⟨G,0,none⟩) n c,FH FI (a:Int),FH FI (b:Int),FH FI (k:Int),cv] w fun e w'=>e=FF (.tuple #[])∧aG y G rest (P++(B++(M++(A++Q)))) w':=by
 have HS:=Fk h;clear h;go_enter Tryz.func203,Tryz.ntmps203
 go_wp2_with fail
 go_loopw [10] (fun v wr=>∃ i:Nat,i≤k∧v=FH FI (i:Int)∧Hid (aG y G rest (P++(B.take i++(A.drop i++(M++(A.take i++(B.drop i++Q)))))) wr)) (fun v _=>k-(intOf v).toNat)
 case atStart=>exact ⟨0,Fu _,rfl,by simpa using HS⟩
 obtain ⟨i,hi,rfl,HI⟩:=hrel;by_cases co:i<k
 ·have a7:(i:Int)<(k:Int):=by omega
  have a3:i<A.length:=by omega
  have a5:i<B.length:=by omega
  obtain ⟨U,a2⟩:∃ x,A[i]=x:=⟨_,rfl⟩
  obtain ⟨xb,a4⟩:∃ x,B[i]=x:=⟨_,rfl⟩
  obtain ⟨p,hp⟩:∃ p:Nat,a+i=p:=⟨_,rfl⟩
  obtain ⟨q,hq⟩:∃ q:Nat,b+i=q:=⟨_,rfl⟩
  have cn:(p:Int)<(n:Int):=by omega
  have cm:(q:Int)<(n:Int):=by omega
  have cq:IntKind.i64.wrap ((a:Int)+(i:Int))=(p:Int):=by simp[IntKind.wrap,IntKind.bits,IntKind.signed];omega
  have cr:IntKind.i64.wrap ((b:Int)+(i:Int))=(q:Int):=by simp[IntKind.wrap,IntKind.bits,IntKind.signed];omega
  have eX:P++(B.take i++(A.drop i++(M++(A.take i++(B.drop i++Q)))))=(P++B.take i)++U::((A.drop (i+1)++(M++A.take i))++xb::(B.drop (i+1)++Q)):=by
   rw[jw a3,jw a5,a2,a4];simp
  have eY:P++(B.take (i+1)++(A.drop (i+1)++(M++(A.take (i+1)++(B.drop (i+1)++Q)))))=(P++B.take i)++xb::((A.drop (i+1)++(M++A.take i))++U::(B.drop (i+1)++Q)):=by
   rw[lA a3,lA a5,a2,a4];simp
  have aA:p=(P++B.take i).length:=by rw[Fo,Fw];omega
  have av:q=(P++B.take i).length+1+(A.drop (i+1)++(M++A.take i)).length:=by
   simp only[Fo,Fw,List.length_drop];omega
  rw[eX] at HI;obtain ⟨X,hX⟩:∃ X,P++B.take i=X:=⟨_,rfl⟩
  obtain ⟨Y,hY⟩:∃ X,A.drop (i+1)++(M++A.take i)=X:=⟨_,rfl⟩
  obtain ⟨Z,hZ⟩:∃ X,B.drop (i+1)++Q=X:=⟨_,rfl⟩
  rw[hX,hY,hZ] at HI;have bt:Hid (∀ wx,aG y G rest (X++xb::(Y++U::Z)) wx→aG y G rest (P++(B.take (i+1)++(A.drop (i+1)++(M++(A.take (i+1)++(B.drop (i+1)++Q)))))) wx):=Fk (fun wx h=>by
   rw[eY,hX,hY,hZ];exact h)
  have cj:IntKind.i64.wrap ((i:Int)+1)=(i:Int)+1:=by simp[IntKind.wrap,IntKind.bits,IntKind.signed];omega
  rw[hX] at aA av;rw[hY] at av;have HB:=Fk HI.out.b;have a8:Hid ((bf (X++U::(Y++xb::Z)) rest)[p]? = some (FD U.A U.n U.c)):=Fk (qN X _ U rest aA);have a9:Hid ((bf (X++U::(Y++xb::Z)) rest)[q]? = some (FD xb.A xb.n xb.c)):=Fk (oT X Y Z U xb rest av);have cd:Hid (p≠q):=Fk (by omega);have ci:=Fk (wN X Y Z U xb rest aA av);clear eX eY hX hY hZ aA av a2 a4 hp hq a3 a5 b9 a6 ha I;go_upto_block 1 with (fail)
  go_cut [] (fun wx=>Hid (aG y G rest (X++xb::(Y++U::Z)) wx))
  case first =>
   rename_i J1 K1 bo b7;go_upto_region 3 with (fail)
   refine eo (by kernel_rfl) (by kernel_rfl) (by kernel_rfl) (fun (_:Unit) ix=>([FD (some ⟨G,0,none⟩) n c,FH FI (a:Int),FH FI (i:Int),FH FI (p:Int),FD (some ⟨G,0,none⟩) n c,FH FI (b:Int),FH FI (i:Int),FH FI (q:Int),FD (some ⟨G,0,none⟩) n c,FH FI (b:Int),FH FI (i:Int),FH FI (q:Int),FE (some ⟨G,q,none⟩),FD xb.A xb.n xb.c,FD (some ⟨G,0,none⟩) n c,FH FI (a:Int),FH FI (i:Int),FH FI (p:Int),FE (some ⟨G,p,none⟩),FD U.A U.n U.c,FE (some ⟨G,p,none⟩),undef,FE (some ⟨G,q,none⟩),undef]:List Value).getD ix undef) (fun (_:Unit) L w'=>oS wr G 89 (bf (X++U::(Y++xb::Z)) rest) p q (FD xb.A xb.n xb.c) (FD U.A U.n U.c) 13 19 21 23 L w') ⟨(),oS.start HB.out⟩ ?_ ?_
   ·show oR _ 24
    refine ⟨⟨⟨⟨⟨⟨⟨⟨⟨⟨⟨⟨⟨⟨⟨⟨⟨⟨⟨⟨⟨⟨⟨⟨trivial,?_⟩,?_⟩,?_⟩,?_⟩,?_⟩,?_⟩,?_⟩,?_⟩,?_⟩,?_⟩,?_⟩,?_⟩,?_⟩,?_⟩,?_⟩,?_⟩,?_⟩,?_⟩,?_⟩,?_⟩,?_⟩,?_⟩,?_⟩,?_⟩
    ·intro I g L O V hL J D H
     have e0:O.tmps.getD 0 undef=FD (some ⟨G,0,none⟩) n c:=D.old 0 (by kernel_rfl);have N:=H.far (k:=0) (by decide) (by decide);refine am (g:=g) rfl I rfl D (by exact N) ?_;show (execOp _ _).run _ _=Result.ok (.value (FD (some ⟨G,0,none⟩) n c)) _;clear N D J I H;simp only[execOp,Act.eval,e0];go_simp
    ·intro I g L O V hL J D H
     have e1:O.tmps.getD 1 undef=FH FI (a:Int):=D.old 1 (by kernel_rfl);have N:=H.far (k:=1) (by decide) (by decide);refine am (g:=g) rfl I rfl D (by exact N) ?_;show (execOp _ _).run _ _=Result.ok (.value (FH FI (a:Int))) _;clear N D J I H;simp only[execOp,Act.eval,e1];go_simp
    ·intro I g L O V hL J D H
     have ad:O.tmps.getD 10 undef=FH FI (i:Int):=D.old 10 (by kernel_rfl);have N:=H.far (k:=2) (by decide) (by decide);refine am (g:=g) rfl I rfl D (by exact N) ?_;show (execOp _ _).run _ _=Result.ok (.value (FH FI (i:Int))) _;clear N D J I H;simp only[execOp,Act.eval,ad];go_simp
    ·intro I g L O V hL J D H
     have bk:O.tmps.getD 17 undef=FH FI (a:Int):=D.y 1 _ 17 rfl rfl (J 1 (by kernel_rfl));have b8:O.tmps.getD 18 undef=FH FI (i:Int):=D.y 2 _ 18 rfl rfl (J 2 (by kernel_rfl));have N:=H.far (k:=3) (by decide) (by decide);refine am (g:=g) rfl I rfl D (by exact N) ?_;show (execOp _ _).run _ _=Result.ok (.value (FH FI (p:Int))) _;clear N D J I H;simp only[execOp,Act.eval,bk,b8];go_simp
    ·intro I g L O V hL J D H
     have e0:O.tmps.getD 0 undef=FD (some ⟨G,0,none⟩) n c:=D.old 0 (by kernel_rfl);have N:=H.far (k:=4) (by decide) (by decide);refine am (g:=g) rfl I rfl D (by exact N) ?_;show (execOp _ _).run _ _=Result.ok (.value (FD (some ⟨G,0,none⟩) n c)) _;clear N D J I H;simp only[execOp,Act.eval,e0];go_simp
    ·intro I g L O V hL J D H
     have e2:O.tmps.getD 2 undef=FH FI (b:Int):=D.old 2 (by kernel_rfl);have N:=H.far (k:=5) (by decide) (by decide);refine am (g:=g) rfl I rfl D (by exact N) ?_;show (execOp _ _).run _ _=Result.ok (.value (FH FI (b:Int))) _;clear N D J I H;simp only[execOp,Act.eval,e2];go_simp
    ·intro I g L O V hL J D H
     have ad:O.tmps.getD 10 undef=FH FI (i:Int):=D.old 10 (by kernel_rfl);have N:=H.far (k:=6) (by decide) (by decide);refine am (g:=g) rfl I rfl D (by exact N) ?_;show (execOp _ _).run _ _=Result.ok (.value (FH FI (i:Int))) _;clear N D J I H;simp only[execOp,Act.eval,ad];go_simp
    ·intro I g L O V hL J D H
     have bZ:O.tmps.getD 21 undef=FH FI (b:Int):=D.y 5 _ 21 rfl rfl (J 5 (by kernel_rfl));have ca:O.tmps.getD 22 undef=FH FI (i:Int):=D.y 6 _ 22 rfl rfl (J 6 (by kernel_rfl));have N:=H.far (k:=7) (by decide) (by decide);refine am (g:=g) rfl I rfl D (by exact N) ?_;show (execOp _ _).run _ _=Result.ok (.value (FH FI (q:Int))) _;clear N D J I H;simp only[execOp,Act.eval,bZ,ca];go_simp
    ·intro I g L O V hL J D H
     have e0:O.tmps.getD 0 undef=FD (some ⟨G,0,none⟩) n c:=D.old 0 (by kernel_rfl);have N:=H.far (k:=8) (by decide) (by decide);refine am (g:=g) rfl I rfl D (by exact N) ?_;show (execOp _ _).run _ _=Result.ok (.value (FD (some ⟨G,0,none⟩) n c)) _;clear N D J I H;simp only[execOp,Act.eval,e0];go_simp
    ·intro I g L O V hL J D H
     have e2:O.tmps.getD 2 undef=FH FI (b:Int):=D.old 2 (by kernel_rfl);have N:=H.far (k:=9) (by decide) (by decide);refine am (g:=g) rfl I rfl D (by exact N) ?_;show (execOp _ _).run _ _=Result.ok (.value (FH FI (b:Int))) _;clear N D J I H;simp only[execOp,Act.eval,e2];go_simp
    ·intro I g L O V hL J D H
     have ad:O.tmps.getD 10 undef=FH FI (i:Int):=D.old 10 (by kernel_rfl);have N:=H.far (k:=10) (by decide) (by decide);refine am (g:=g) rfl I rfl D (by exact N) ?_;show (execOp _ _).run _ _=Result.ok (.value (FH FI (i:Int))) _;clear N D J I H;simp only[execOp,Act.eval,ad];go_simp
    ·intro I g L O V hL J D H
     have b0:O.tmps.getD 25 undef=FH FI (b:Int):=D.y 9 _ 25 rfl rfl (J 9 (by kernel_rfl));have cg:O.tmps.getD 26 undef=FH FI (i:Int):=D.y 10 _ 26 rfl rfl (J 10 (by kernel_rfl));have N:=H.far (k:=11) (by decide) (by decide);refine am (g:=g) rfl I rfl D (by exact N) ?_;show (execOp _ _).run _ _=Result.ok (.value (FH FI (q:Int))) _;clear N D J I H;simp only[execOp,Act.eval,b0,cg];go_simp
    ·intro I g L O V hL J D H
     have bc:O.tmps.getD 24 undef=FD (some ⟨G,0,none⟩) n c:=D.y 8 _ 24 rfl rfl (J 8 (by kernel_rfl));have br:O.tmps.getD 27 undef=FH FI (q:Int):=D.y 11 _ 27 rfl rfl (J 11 (by kernel_rfl));have N:=H.far (k:=12) (by decide) (by decide);refine am (g:=g) rfl I rfl D (by exact N) ?_;show (execOp _ _).run _ _=Result.ok (.value (FE (some ⟨G,q,none⟩))) _;clear N D J I H;simp only[execOp,Act.eval,bc,br];go_simp
    ·intro I g L O V hL J D H
     have b5:O.tmps.getD 28 undef=FE (some ⟨G,q,none⟩):=D.y 12 _ 28 rfl rfl (J 12 (by kernel_rfl));have N:=H.far (k:=13) (by decide) (by decide);obtain ⟨kk,bb⟩:=H.ld1 hL;have x1:V.cell? ⟨G,q,none⟩=some (FD xb.A xb.n xb.c):=(bb.cell _).trans a9.out;clear kk bb;refine am (g:=g) rfl I rfl D (by exact N) ?_;show (execOp _ _).run _ _=Result.ok (.value (FD xb.A xb.n xb.c)) _;clear N D J I H;simp only[execOp,Act.eval,b5];go_simp
    ·intro I g L O V hL J D H
     have e0:O.tmps.getD 0 undef=FD (some ⟨G,0,none⟩) n c:=D.old 0 (by kernel_rfl);have N:=H.far (k:=14) (by decide) (by decide);refine am (g:=g) rfl I rfl D (by exact N) ?_;show (execOp _ _).run _ _=Result.ok (.value (FD (some ⟨G,0,none⟩) n c)) _;clear N D J I H;simp only[execOp,Act.eval,e0];go_simp
    ·intro I g L O V hL J D H
     have e1:O.tmps.getD 1 undef=FH FI (a:Int):=D.old 1 (by kernel_rfl);have N:=H.far (k:=15) (by decide) (by decide);refine am (g:=g) rfl I rfl D (by exact N) ?_;show (execOp _ _).run _ _=Result.ok (.value (FH FI (a:Int))) _;clear N D J I H;simp only[execOp,Act.eval,e1];go_simp
    ·intro I g L O V hL J D H
     have ad:O.tmps.getD 10 undef=FH FI (i:Int):=D.old 10 (by kernel_rfl);have N:=H.far (k:=16) (by decide) (by decide);refine am (g:=g) rfl I rfl D (by exact N) ?_;show (execOp _ _).run _ _=Result.ok (.value (FH FI (i:Int))) _;clear N D J I H;simp only[execOp,Act.eval,ad];go_simp
    ·intro I g L O V hL J D H
     have bj:O.tmps.getD 31 undef=FH FI (a:Int):=D.y 15 _ 31 rfl rfl (J 15 (by kernel_rfl));have b3:O.tmps.getD 32 undef=FH FI (i:Int):=D.y 16 _ 32 rfl rfl (J 16 (by kernel_rfl));have N:=H.far (k:=17) (by decide) (by decide);refine am (g:=g) rfl I rfl D (by exact N) ?_;show (execOp _ _).run _ _=Result.ok (.value (FH FI (p:Int))) _;clear N D J I H;simp only[execOp,Act.eval,bj,b3];go_simp
    ·intro I g L O V hL J D H
     have bv:O.tmps.getD 30 undef=FD (some ⟨G,0,none⟩) n c:=D.y 14 _ 30 rfl rfl (J 14 (by kernel_rfl));have ce:O.tmps.getD 33 undef=FH FI (p:Int):=D.y 17 _ 33 rfl rfl (J 17 (by kernel_rfl));have N:=H.far (k:=18) (by decide) (by decide);refine am (g:=g) rfl I rfl D (by exact N) ?_;show (execOp _ _).run _ _=Result.ok (.value (FE (some ⟨G,p,none⟩))) _;clear N D J I H;simp only[execOp,Act.eval,bv,ce];go_simp
    ·intro I g L O V hL J D H
     have bm:O.tmps.getD 34 undef=FE (some ⟨G,p,none⟩):=D.y 18 _ 34 rfl rfl (J 18 (by kernel_rfl));have N:=H.far (k:=19) (by decide) (by decide);obtain ⟨kk,bb⟩:=H.ld2 hL;have x1:V.cell? ⟨G,p,none⟩=some (FD U.A U.n U.c):=(bb.cell _).trans a8.out;clear kk bb;refine am (g:=g) rfl I rfl D (by exact N) ?_;show (execOp _ _).run _ _=Result.ok (.value (FD U.A U.n U.c)) _;clear N D J I H;simp only[execOp,Act.eval,bm];go_simp
    ·intro I g L O V hL J D H
     have be:O.tmps.getD 16 undef=FD (some ⟨G,0,none⟩) n c:=D.y 0 _ 16 rfl rfl (J 0 (by kernel_rfl));have b6:O.tmps.getD 19 undef=FH FI (p:Int):=D.y 3 _ 19 rfl rfl (J 3 (by kernel_rfl));have N:=H.far (k:=20) (by decide) (by decide);refine am (g:=g) rfl I rfl D (by exact N) ?_;show (execOp _ _).run _ _=Result.ok (.value (FE (some ⟨G,p,none⟩))) _;clear N D J I H;simp only[execOp,Act.eval,be,b6];go_simp
    ·intro I g L O V hL J D H
     have bq:O.tmps.getD 36 undef=FE (some ⟨G,p,none⟩):=D.y 20 _ 36 rfl rfl (J 20 (by kernel_rfl));have ba:O.tmps.getD 29 undef=FD xb.A xb.n xb.c:=D.y 13 _ 29 rfl rfl (J 13 (by kernel_rfl));obtain ⟨kk,bb⟩:=H.p0 hL;have x1:V.cell? ⟨G,p,none⟩=some (FD U.A U.n U.c):=(bb.cell _).trans a8.out;have x2:V.frozen? ⟨G,p,none⟩=false:=bb.frozen _;refine dN (w':=V.setCell ⟨G,p,none⟩ (FD xb.A xb.n xb.c)) rfl rfl ?_ ⟨g,D.put I rfl,H.b1 hL (J 13 (by kernel_rfl)) (J 19 (by kernel_rfl)) (by decide)⟩;clear D J I H kk bb;simp only[execOp,Act.eval,bq,ba];go_simp
    ·intro I g L O V hL J D H
     have bz:O.tmps.getD 20 undef=FD (some ⟨G,0,none⟩) n c:=D.y 4 _ 20 rfl rfl (J 4 (by kernel_rfl));have ch:O.tmps.getD 23 undef=FH FI (q:Int):=D.y 7 _ 23 rfl rfl (J 7 (by kernel_rfl));have N:=H.far (k:=22) (by decide) (by decide);refine am (g:=g) rfl I rfl D (by exact N) ?_;show (execOp _ _).run _ _=Result.ok (.value (FE (some ⟨G,q,none⟩))) _;clear N D J I H;simp only[execOp,Act.eval,bz,ch];go_simp
    intro I g L O V hL J D H;have b4:O.tmps.getD 37 undef=FE (some ⟨G,q,none⟩):=D.y 22 _ 37 rfl rfl (J 22 (by kernel_rfl));have bX:O.tmps.getD 35 undef=FD U.A U.n U.c:=D.y 19 _ 35 rfl rfl (J 19 (by kernel_rfl));have h1:=J 21 (by kernel_rfl);obtain ⟨kk,bb⟩:=H.p1 h1 hL;have x1:V.cell? ⟨G,q,none⟩=some (FD xb.A xb.n xb.c):=(bb.cell _).trans (by rw[Array.getElem?_setIfInBounds,if_neg cd.out];exact a9.out);have x2:V.frozen? ⟨G,q,none⟩=false:=bb.frozen _;refine dN (w':=V.setCell ⟨G,q,none⟩ (FD U.A U.n U.c)) rfl rfl ?_ ⟨g,D.put I rfl,H.b2 hL h1 (by decide)⟩;clear D J I H kk bb;simp only[execOp,Act.eval,b4,bX];go_simp
   intro g L w' a0 H
   (try simp only[Exit.inBlock,Exit.then])
   refine b7 _ _ (Met.intro (bo _ _ ?_));repeat apply Exists.intro
   exact ⟨Fk ⟨HI.out.k.trans (H.p2 (a0 23 (by decide))).1,(H.p2 (a0 23 (by decide))).2.congr ci.out⟩,rfl⟩
  have HN:=Fk (bt.out _ hcut.out);obtain ⟨y4,rfl⟩:∃ z:World,z=wc:=⟨_,rfl⟩
  clear hcut;go_wp2;go_roundw
  case rel=>exact ⟨i+1,by omega,by go_num,HN⟩
  case measure=>simp[intOf];omega
 have a7:¬(i:Int)<(k:Int):=by omega
 have HF:Hid (aG y G rest (P++(B++(M++(A++Q)))) wr):=Fk (by
  have h:=HI.out;rw[List.take_of_length_le (by omega),List.take_of_length_le (by omega),List.drop_of_length_le (by omega),List.drop_of_length_le (by omega)] at h;simpa using h)
 go_wp2;go_end0
 exact ⟨rfl,HF.out⟩
def bO (h:SR→SR→Int) (x z:SR):Bool:=!decide (h z x<0)
theorem nr {D:SR→SR→Int} {x z:SR} (h:¬D z x<0):bO D x z=true:=by unfold bO;rw[decide_eq_false h];rfl
theorem rV {D:SR→SR→Int} {x z:SR} (h:D z x<0):bO D x z=false:=by unfold bO;rw[decide_eq_true h];rfl
structure tK (y:World) (G:Nat) (kf:Nat) (cap:Array Value) (ci:SR→SR→Int) (S:SR→Prop):Prop where
 he:∀ args w,(callFunc kf args).run Tryz.prog w= .ok (.enter kf args) w
 ord:iY (bO ci)
 c:∀ x z,S x→S z→∀ W,aa [G] y W→Calls Tryz.prog kf (#[x.v,z.v]++cap) W fun e W'=>e=FF (FH FI (ci x z))∧aa [] W W'
theorem aG.at {y:World} {G:Nat} {rest:List Value} {X Y:List SR} {x:SR} {w:World} (h:aG y G rest (X++x::Y) w) {i:Nat} (D:i=X.length):w.cell? ⟨G,i,none⟩=some (FD x.A x.n x.c):=(h.b.cell i).trans (qN X Y x rest D)
theorem aG.keep {y:World} {G:Nat} {rest:List Value} {l:List SR} {w w':World} (h:aG y G rest l w) (D:aa [] w w'):aG y G rest l w':=⟨h.k.trans D.of_nil,h.b.keep D (by simp)⟩
theorem ka (y:World) (G:Nat) (rest:List Value) (n c:Nat) (hn:n≤1000000) (kf:Nat) (cap:Array Value) (ci:SR→SR→Int) (S:SR→Prop) (hC:tK y G kf cap ci S) (P A Q:List SR) (hS:∀ x∈A,S x) (a5:P.length+A.length+Q.length=n) (a b:Nat) (ha:a=P.length) (I:b=P.length+A.length) (w:World) (h:aG y G rest (P++(A++Q)) w) :
  Calls Tryz.prog 185 #[FD (some ⟨G,0,none⟩) n c,FH FI (a:Int),FH FI (b:Int),.func (.func kf) #[] cap] w fun e w'=>e=FF (.tuple #[])∧aG y G rest (P++(ee (bO ci) A++Q)) w':=by
 have HS:=Fk h;have bq:=Fk hS;have HC:=Fk hC;have he:=hC.he;have cu:IntKind.i64.wrap ((a:Int)+1)=((a+1:Nat):Int):=by simp[IntKind.wrap,IntKind.bits,IntKind.signed];omega
 have av:a=P.length∧b=P.length+A.length∧P.length+A.length+Q.length=n:=⟨ha,I,a5⟩;have ce:=Fk av;clear h hS hC av ha I a5;go_enter Tryz.func185,Tryz.ntmps185
 go_wp2_with fail
 clear cu;go_loopw [8] (fun v wr=>∃ i t:Nat,v=FH FI (i:Int)∧i=a+t∧1≤t∧(t≤A.length∨t=1)∧Hid (aG y G rest (P++(ee (bO ci) (A.take t)++(A.drop t++Q))) wr)) (fun v _=>b-(intOf v).toNat)
 case atStart =>
  refine ⟨a+1,1,rfl,rfl,Fm _,.inr rfl,Fk ?_⟩;have e:ee (bO ci) (A.take 1)=A.take 1:=by
   cases A with
   | nil=>rfl
   | cons x l=>simp[ee,mg]
  rw[e,←List.append_assoc (A.take 1),List.take_append_drop];exact HS.out
 obtain ⟨i,t,rfl,bt,cz,ht,HI⟩:=hrel;have av:=ce.out;by_cases dq:i<b
 ·have bj:(i:Int)<(b:Int):=by omega
  have a2:t<A.length:=by omega
  obtain ⟨M,a3⟩:∃ x,A[t]=x:=⟨_,rfl⟩
  have b9:i<n:=by omega
  have c5:IntKind.i64.wrap ((i:Int)+1)=(i:Int)+1:=by simp[IntKind.wrap,IntKind.bits,IntKind.signed];omega
  obtain ⟨L,U⟩:∃ L,ee (bO ci) (A.take t)=L:=⟨_,rfl⟩
  obtain ⟨R,hR⟩:∃ R,A.drop (t+1)++Q=R:=⟨_,rfl⟩
  have b5:L.length=t:=by rw[←U,bG,Fw];omega
  have cn:Hid (lJ (bO ci) L):=Fk (by rw[←U];exact kR HC.out.ord _);have bX:Hid (∀ x∈L,S x):=Fk (fun x hx=>by
   rw[←U] at hx;exact bq.out x (List.mem_of_mem_take ((gK _).mem_iff.1 hx)))
  have ct:Hid (S M):=Fk (by rw[←a3];exact bq.out _ (Fs a2));have a6:Hid (∀ L1 L2 wx,L1++L2=L→(∀ x∈L1,bO ci x M=true)→(∀ x∈L2,bO ci x M=false)→aG y G rest (P++(L1++(M::(L2++R)))) wx→aG y G rest (P++(ee (bO ci) (A.take (t+1))++(A.drop (t+1)++Q))) wx):=Fk (fun L1 L2 wx e h1 h2 h=>by
   rw[lA a2,a3,gJ,U,←e,zN h1 h2,hR];simpa using h)
  rw[jw a2,a3,U] at HI;have cg:Hid (aG y G rest (P++(L++(M::([]++R)))) wr):=Fk (by
   have h:=HI.out;rw[←hR];simpa using h)
  have bk:a=P.length:=av.1;have b7:=Fk (show i=a+L.length by omega);have c7:Hid (P.length+L.length+1+R.length=n):=Fk (by
   rw[←hR,Fo,List.length_drop];omega)
  have c0:=Fk bk;have cx:Hid (∀ wx,aG y G rest (P++(ee (bO ci) (A.take (t+1))++(A.drop (t+1)++Q))) wx→∃ i2 t2:Nat,(FH FI ((i:Int)+1):Value)=FH FI (i2:Int)∧i2=a+t2∧1≤t2∧(t2≤A.length∨t2=1)∧Hid (aG y G rest (P++(ee (bO ci) (A.take t2)++(A.drop t2++Q))) wx)):=Fk (fun wx h=>⟨i+1,t+1,by go_num,by omega,by omega,.inl (by omega),Fk h⟩);clear bt cz ht a2 a3 U hR b5 av bk HI HS;go_upto_block 1 with (fail)
  go_cut [] (fun wx=>Hid (aG y G rest (P++(ee (bO ci) (A.take (t+1))++(A.drop (t+1)++Q))) wx))
  case first =>
   go_wp2_with fail
   go_loopw [9] (fun v wx=>∃ (L1 L2:List SR) (p:Nat),v=FH FI (p:Int)∧Hid (p=a+L1.length)∧p≤i∧Hid (L1++L2=L)∧Hid (∀ x∈L2,bO ci x M=false)∧Hid (aG y G rest (P++(L1++(M::(L2++R)))) wx)) (fun v _=>(intOf v).toNat)
   case atStart=>exact ⟨L,[],i,rfl,b7,Fm _,Fk (by simp),Fk (fun x hx=>by cases hx),cg⟩
   obtain ⟨L1,L2,p,rfl,HP,c6,HL,a8,HJ⟩:=hrel;obtain ⟨u,rfl⟩:∃ u:World,u=wr:=⟨_,rfl⟩
   have hin':=b9;rcases List.eq_nil_or_concat L1 with rfl|⟨ad,z,rfl⟩
   ·have cD:¬(p:Int)>(a:Int):=by
     have h:=HP.out;simp at h;omega
    go_upto_region 4 with (fail)
    refine ah (by kernel_rfl) (by kernel_rfl) ?_;repeat (go_big_quiet_step (fail))
    refine wpQuiet_nil ?_;intro wx kx;have HX:=Fk (a6.out [] L2 wx HL.out (fun x hx=>by cases hx) a8.out (HJ.out.keep kx));go_wp2;go_meet;exact HX
   rw[List.concat_eq_append] at HP HL HJ;obtain ⟨q,hq⟩:∃ q,a+ad.length=q:=⟨_,rfl⟩
   have hp:p=q+1:=by
    have h:=HP.out;rw[Fo] at h;simp at h;omega
   have cD:(p:Int)>(a:Int):=by omega
   have c9:(p:Int)<(n:Int):=by omega
   have c8:(q:Int)<(n:Int):=by omega
   have dr:IntKind.i64.wrap ((p:Int)-1)=(q:Int):=by simp[IntKind.wrap,IntKind.bits,IntKind.signed];omega
   have aA:Hid (aG y G rest ((P++ad)++z::([]++M::(L2++R))) u):=Fk (by
    have h:=HJ.out;simpa using h)
   have a0:Hid (q=(P++ad).length):=Fk (by rw[Fo,←c0.out];exact hq.symm);have a4:Hid (p=(P++ad).length+1+([]:List SR).length):=Fk (by rw[←a0.out];exact hp);have ba:z∈L:=by rw[←HL.out];simp
   obtain ⟨r,hr⟩:∃ r,ci M z=r:=⟨_,rfl⟩
   have bv:Hid (∀ W,aa [] u W→Calls Tryz.prog kf (#[FD M.A M.n M.c,FD z.A z.n z.c]++cap) W fun e W'=>e=FF (FH FI r)∧aa [] W W'):=Fk (fun W k=>by
    rw[←hr];exact HC.out.c M z ct.out (bX.out z ba) W (aA.out.k.trans k.of_nil))
   have x1:u.cell? ⟨G,p,none⟩=some (FD M.A M.n M.c):=(aA.out.b.cell p).trans (oT _ _ _ _ _ _ a4.out);have x2:u.cell? ⟨G,q,none⟩=some (FD z.A z.n z.c):=aA.out.at a0.out;have lG:G<u.heap.size:=aA.out.b.lt;by_cases bc:r<0
   ·have HZ:Hid (bO ci z M=false):=Fk (rV (by rw[hr];exact bc))
    have br:Hid (∀ wx,aG y G rest ((P++ad)++M::([]++z::(L2++R))) wx→∃ (M1 M2:List SR) (p2:Nat),(FH FI (q:Int):Value)=FH FI (p2:Int)∧Hid (p2=a+M1.length)∧p2≤i∧Hid (M1++M2=L)∧Hid (∀ x∈M2,bO ci x M=false)∧Hid (aG y G rest (P++(M1++(M::(M2++R)))) wx)):=Fk (fun wx h=>by
     refine ⟨ad,z::L2,q,rfl,Fk hq.symm,by omega,Fk (by have:=HL.out;simpa using this),Fk (fun x hx=>?_),Fk (by simpa using h)⟩;rcases List.mem_cons.1 hx with rfl|hx
     ·exact HZ.out
     exact a8.out x hx)
    have ds:q<p:=by omega
    have c3:Hid (p≠q):=Fk (by omega);clear ba hr hp hq HJ hin';go_upto_region 4 with (fail)
    refine ah (by kernel_rfl) (by kernel_rfl) ?_;repeat (go_big_quiet_step (with_reducible exact KW.of bv.out _))
    refine wpQuiet_nil ?_;intro wx kx;have a9:=Fk (aA.out.keep kx);obtain ⟨X,hX⟩:∃ X,P++ad=X:=⟨_,rfl⟩
    obtain ⟨Z,hZ⟩:∃ Z,L2++R=Z:=⟨_,rfl⟩
    rw[hX,hZ] at a9 br;rw[hX] at a0 a4;have HB:=Fk a9.out.b;have bm:Hid ((bf (X++z::([]++M::Z)) rest)[q]? = some (FD z.A z.n z.c)):=Fk (qN X _ z rest a0.out);have bo:Hid ((bf (X++z::([]++M::Z)) rest)[p]? = some (FD M.A M.n M.c)):=Fk (oT X [] Z z M rest a4.out);have c4:=Fk (tI X [] Z z M rest a0.out a4.out);clear x1 x2 lG kx hX hZ;go_upto_block 3 with (fail)
    go_cut [] (fun wy=>Hid (aG y G rest (X++M::([]++z::Z)) wy))
    case first =>
     rename_i J1 K1 cd cv;go_upto_region 6 with (fail)
     refine eo (by kernel_rfl) (by kernel_rfl) (by kernel_rfl) (fun (_:Unit) ix=>([FD (some ⟨G,0,none⟩) n c,FH FI (p:Int),FD (some ⟨G,0,none⟩) n c,FH FI (p:Int),FH FI (q:Int),FD (some ⟨G,0,none⟩) n c,FH FI (p:Int),FH FI (q:Int),FE (some ⟨G,q,none⟩),FD z.A z.n z.c,FD (some ⟨G,0,none⟩) n c,FH FI (p:Int),FE (some ⟨G,p,none⟩),FD M.A M.n M.c,FE (some ⟨G,p,none⟩),undef,FE (some ⟨G,q,none⟩),undef]:List Value).getD ix undef) (fun (_:Unit) L w'=>oS wx G 89 (bf (X++z::([]++M::Z)) rest) p q (FD z.A z.n z.c) (FD M.A M.n M.c) 9 13 15 17 L w') ⟨(),oS.start HB.out⟩ ?_ ?_
     ·show oR _ 18
      refine ⟨⟨⟨⟨⟨⟨⟨⟨⟨⟨⟨⟨⟨⟨⟨⟨⟨⟨trivial,?_⟩,?_⟩,?_⟩,?_⟩,?_⟩,?_⟩,?_⟩,?_⟩,?_⟩,?_⟩,?_⟩,?_⟩,?_⟩,?_⟩,?_⟩,?_⟩,?_⟩,?_⟩
      ·intro I g L O V U J D H
       have e0:O.tmps.getD 0 undef=FD (some ⟨G,0,none⟩) n c:=D.old 0 (by kernel_rfl);have N:=H.far (k:=0) (by decide) (by decide);refine am (g:=g) rfl I rfl D (by exact N) ?_;show (execOp _ _).run _ _=Result.ok (.value (FD (some ⟨G,0,none⟩) n c)) _;clear N D J I H;simp only[execOp,Act.eval,e0];go_simp
      ·intro I g L O V U J D H
       have e9:O.tmps.getD 9 undef=FH FI (p:Int):=D.old 9 (by kernel_rfl);have N:=H.far (k:=1) (by decide) (by decide);refine am (g:=g) rfl I rfl D (by exact N) ?_;show (execOp _ _).run _ _=Result.ok (.value (FH FI (p:Int))) _;clear N D J I H;simp only[execOp,Act.eval,e9];go_simp
      ·intro I g L O V U J D H
       have e0:O.tmps.getD 0 undef=FD (some ⟨G,0,none⟩) n c:=D.old 0 (by kernel_rfl);have N:=H.far (k:=2) (by decide) (by decide);refine am (g:=g) rfl I rfl D (by exact N) ?_;show (execOp _ _).run _ _=Result.ok (.value (FD (some ⟨G,0,none⟩) n c)) _;clear N D J I H;simp only[execOp,Act.eval,e0];go_simp
      ·intro I g L O V U J D H
       have e9:O.tmps.getD 9 undef=FH FI (p:Int):=D.old 9 (by kernel_rfl);have N:=H.far (k:=3) (by decide) (by decide);refine am (g:=g) rfl I rfl D (by exact N) ?_;show (execOp _ _).run _ _=Result.ok (.value (FH FI (p:Int))) _;clear N D J I H;simp only[execOp,Act.eval,e9];go_simp
      ·intro I g L O V U J D H
       have bZ:O.tmps.getD 40 undef=FH FI (p:Int):=D.y 3 _ 40 rfl rfl (J 3 (by kernel_rfl));have N:=H.far (k:=4) (by decide) (by decide);refine am (g:=g) rfl I rfl D (by exact N) ?_;show (execOp _ _).run _ _=Result.ok (.value (FH FI (q:Int))) _;clear N D J I H;simp only[execOp,Act.eval,bZ];go_simp
      ·intro I g L O V U J D H
       have e0:O.tmps.getD 0 undef=FD (some ⟨G,0,none⟩) n c:=D.old 0 (by kernel_rfl);have N:=H.far (k:=5) (by decide) (by decide);refine am (g:=g) rfl I rfl D (by exact N) ?_;show (execOp _ _).run _ _=Result.ok (.value (FD (some ⟨G,0,none⟩) n c)) _;clear N D J I H;simp only[execOp,Act.eval,e0];go_simp
      ·intro I g L O V U J D H
       have e9:O.tmps.getD 9 undef=FH FI (p:Int):=D.old 9 (by kernel_rfl);have N:=H.far (k:=6) (by decide) (by decide);refine am (g:=g) rfl I rfl D (by exact N) ?_;show (execOp _ _).run _ _=Result.ok (.value (FH FI (p:Int))) _;clear N D J I H;simp only[execOp,Act.eval,e9];go_simp
      ·intro I g L O V U J D H
       have ch:O.tmps.getD 43 undef=FH FI (p:Int):=D.y 6 _ 43 rfl rfl (J 6 (by kernel_rfl));have N:=H.far (k:=7) (by decide) (by decide);refine am (g:=g) rfl I rfl D (by exact N) ?_;show (execOp _ _).run _ _=Result.ok (.value (FH FI (q:Int))) _;clear N D J I H;simp only[execOp,Act.eval,ch];go_simp
      ·intro I g L O V U J D H
       have b8:O.tmps.getD 42 undef=FD (some ⟨G,0,none⟩) n c:=D.y 5 _ 42 rfl rfl (J 5 (by kernel_rfl));have c1:O.tmps.getD 44 undef=FH FI (q:Int):=D.y 7 _ 44 rfl rfl (J 7 (by kernel_rfl));have N:=H.far (k:=8) (by decide) (by decide);refine am (g:=g) rfl I rfl D (by exact N) ?_;show (execOp _ _).run _ _=Result.ok (.value (FE (some ⟨G,q,none⟩))) _;clear N D J I H;simp only[execOp,Act.eval,b8,c1];go_simp
      ·intro I g L O V U J D H
       have b4:O.tmps.getD 45 undef=FE (some ⟨G,q,none⟩):=D.y 8 _ 45 rfl rfl (J 8 (by kernel_rfl));have N:=H.far (k:=9) (by decide) (by decide);obtain ⟨kk,bb⟩:=H.ld1 U;have x1:V.cell? ⟨G,q,none⟩=some (FD z.A z.n z.c):=(bb.cell _).trans bm.out;clear kk bb;refine am (g:=g) rfl I rfl D (by exact N) ?_;show (execOp _ _).run _ _=Result.ok (.value (FD z.A z.n z.c)) _;clear N D J I H;simp only[execOp,Act.eval,b4];go_simp
      ·intro I g L O V U J D H
       have e0:O.tmps.getD 0 undef=FD (some ⟨G,0,none⟩) n c:=D.old 0 (by kernel_rfl);have N:=H.far (k:=10) (by decide) (by decide);refine am (g:=g) rfl I rfl D (by exact N) ?_;show (execOp _ _).run _ _=Result.ok (.value (FD (some ⟨G,0,none⟩) n c)) _;clear N D J I H;simp only[execOp,Act.eval,e0];go_simp
      ·intro I g L O V U J D H
       have e9:O.tmps.getD 9 undef=FH FI (p:Int):=D.old 9 (by kernel_rfl);have N:=H.far (k:=11) (by decide) (by decide);refine am (g:=g) rfl I rfl D (by exact N) ?_;show (execOp _ _).run _ _=Result.ok (.value (FH FI (p:Int))) _;clear N D J I H;simp only[execOp,Act.eval,e9];go_simp
      ·intro I g L O V U J D H
       have bz:O.tmps.getD 47 undef=FD (some ⟨G,0,none⟩) n c:=D.y 10 _ 47 rfl rfl (J 10 (by kernel_rfl));have cj:O.tmps.getD 48 undef=FH FI (p:Int):=D.y 11 _ 48 rfl rfl (J 11 (by kernel_rfl));have N:=H.far (k:=12) (by decide) (by decide);refine am (g:=g) rfl I rfl D (by exact N) ?_;show (execOp _ _).run _ _=Result.ok (.value (FE (some ⟨G,p,none⟩))) _;clear N D J I H;simp only[execOp,Act.eval,bz,cj];go_simp
      ·intro I g L O V U J D H
       have cm:O.tmps.getD 49 undef=FE (some ⟨G,p,none⟩):=D.y 12 _ 49 rfl rfl (J 12 (by kernel_rfl));have N:=H.far (k:=13) (by decide) (by decide);obtain ⟨kk,bb⟩:=H.ld2 U;have x1:V.cell? ⟨G,p,none⟩=some (FD M.A M.n M.c):=(bb.cell _).trans bo.out;clear kk bb;refine am (g:=g) rfl I rfl D (by exact N) ?_;show (execOp _ _).run _ _=Result.ok (.value (FD M.A M.n M.c)) _;clear N D J I H;simp only[execOp,Act.eval,cm];go_simp
      ·intro I g L O V U J D H
       have cq:O.tmps.getD 37 undef=FD (some ⟨G,0,none⟩) n c:=D.y 0 _ 37 rfl rfl (J 0 (by kernel_rfl));have cy:O.tmps.getD 38 undef=FH FI (p:Int):=D.y 1 _ 38 rfl rfl (J 1 (by kernel_rfl));have N:=H.far (k:=14) (by decide) (by decide);refine am (g:=g) rfl I rfl D (by exact N) ?_;show (execOp _ _).run _ _=Result.ok (.value (FE (some ⟨G,p,none⟩))) _;clear N D J I H;simp only[execOp,Act.eval,cq,cy];go_simp
      ·intro I g L O V U J D H
       have b3:O.tmps.getD 51 undef=FE (some ⟨G,p,none⟩):=D.y 14 _ 51 rfl rfl (J 14 (by kernel_rfl));have co:O.tmps.getD 46 undef=FD z.A z.n z.c:=D.y 9 _ 46 rfl rfl (J 9 (by kernel_rfl));obtain ⟨kk,bb⟩:=H.p0 U;have x1:V.cell? ⟨G,p,none⟩=some (FD M.A M.n M.c):=(bb.cell _).trans bo.out;have x2:V.frozen? ⟨G,p,none⟩=false:=bb.frozen _;refine dN (w':=V.setCell ⟨G,p,none⟩ (FD z.A z.n z.c)) rfl rfl ?_ ⟨g,D.put I rfl,H.b1 U (J 9 (by kernel_rfl)) (J 13 (by kernel_rfl)) (by decide)⟩;clear D J I H kk bb;simp only[execOp,Act.eval,b3,co];go_simp
      ·intro I g L O V U J D H
       have b6:O.tmps.getD 39 undef=FD (some ⟨G,0,none⟩) n c:=D.y 2 _ 39 rfl rfl (J 2 (by kernel_rfl));have cr:O.tmps.getD 41 undef=FH FI (q:Int):=D.y 4 _ 41 rfl rfl (J 4 (by kernel_rfl));have N:=H.far (k:=16) (by decide) (by decide);refine am (g:=g) rfl I rfl D (by exact N) ?_;show (execOp _ _).run _ _=Result.ok (.value (FE (some ⟨G,q,none⟩))) _;clear N D J I H;simp only[execOp,Act.eval,b6,cr];go_simp
      intro I g L O V U J D H;have b0:O.tmps.getD 52 undef=FE (some ⟨G,q,none⟩):=D.y 16 _ 52 rfl rfl (J 16 (by kernel_rfl));have ca:O.tmps.getD 50 undef=FD M.A M.n M.c:=D.y 13 _ 50 rfl rfl (J 13 (by kernel_rfl));have h1:=J 15 (by kernel_rfl);obtain ⟨kk,bb⟩:=H.p1 h1 U;have x1:V.cell? ⟨G,q,none⟩=some (FD z.A z.n z.c):=(bb.cell _).trans (by rw[Array.getElem?_setIfInBounds,if_neg c3.out];exact bm.out);have x2:V.frozen? ⟨G,q,none⟩=false:=bb.frozen _;refine dN (w':=V.setCell ⟨G,q,none⟩ (FD M.A M.n M.c)) rfl rfl ?_ ⟨g,D.put I rfl,H.b2 U h1 (by decide)⟩;clear D J I H kk bb;simp only[execOp,Act.eval,b0,ca];go_simp
     intro g L w' a7 H
     (try simp only[Exit.inBlock,Exit.then])
     refine cv _ _ (Met.intro (cd _ _ ?_));repeat apply Exists.intro
     exact ⟨Fk ⟨a9.out.k.trans (H.p2 (a7 17 (by decide))).1,(H.p2 (a7 17 (by decide))).2.congr c4.out⟩,rfl⟩
    have HN:=Fk (br.out _ hcut.out);obtain ⟨y4,rfl⟩:∃ z:World,z=wc:=⟨_,rfl⟩
    clear hcut;go_wp2;go_roundw
    case rel=>exact HN.out
    case measure=>simp[intOf];omega
   have HZ:Hid (bO ci z M=true):=Fk (nr (by rw[hr];exact bc));have be:Hid (∀ x∈ad++[z],bO ci x M=true):=Fk (by
    have hs:lJ (bO ci) (ad++[z]):=by
     have h:=cn.out;rw[←HL.out] at h;exact (List.pairwise_append.1 h).1
    intro x hx;rcases List.mem_append.1 hx with hx|hx
    ·exact HC.out.ord.trans _ _ _ ((List.pairwise_append.1 hs).2.2 x hx z (by simp)) HZ.out
    obtain rfl:=List.mem_singleton.1 hx;exact HZ.out)
   clear ba hr hp hq hin';go_upto_region 4 with (fail)
   refine ah (by kernel_rfl) (by kernel_rfl) ?_;repeat (go_big_quiet_step (with_reducible exact KW.of bv.out _))
   refine wpQuiet_nil ?_;intro wx kx;have HX:=Fk (a6.out (ad++[z]) L2 wx HL.out be.out a8.out (HJ.out.keep kx));go_wp2;go_meet;exact HX
  have HN:=Fk (cx.out _ hcut.out);obtain ⟨y4,rfl⟩:∃ z:World,z=wc:=⟨_,rfl⟩
  clear hcut;go_wp2;go_roundw
  case rel=>exact HN.out
  case measure=>simp[intOf];omega
 have bj:¬(i:Int)<(b:Int):=by omega
 have HF:Hid (aG y G rest (P++(ee (bO ci) A++Q)) wr):=Fk (by
  have h:=HI.out;rw[List.take_of_length_le (by omega),List.drop_of_length_le (by omega)] at h;simpa using h)
 clear av bt;go_wp2;go_end0
 exact ⟨rfl,HF.out⟩
theorem rW {α:Type} (P A Q:List α) {i k:Nat} (D:i=P.length+k) (h:k<A.length):(P++(A++Q))[i]? = some A[k]:=by
 subst D;rw[List.getElem?_append_right (by omega),Nat.add_sub_cancel_left,List.getElem?_append_left h,Fp h]
theorem aG.get {y:World} {G:Nat} {rest:List Value} {l:List SR} {x:SR} {w:World} (h:aG y G rest l w) {i:Nat} (D:l[i]? = some x):w.cell? ⟨G,i,none⟩=some (FD x.A x.n x.c):=by
 refine (h.b.cell i).trans ?_;have H:=(List.getElem?_eq_some_iff.1 D).1;unfold bf;rw[List.getElem?_toArray,List.getElem?_append_left (by rw[List.length_map];exact H),List.getElem?_map,D];rfl
theorem lB (i j h:Nat) (J:i+j≤4000000) (I:(i+j) / 2=h):wrap64 (IntKind.u64.wrap ((i:Int)+(j:Int)) / 2)=(h:Int):=by
 have D:IntKind.u64.wrap ((i:Int)+(j:Int))=(i:Int)+(j:Int):=by
  rw[IntKind.wrap_u64];omega
 have H:((i:Int)+(j:Int)) / 2=(h:Int):=by omega
 rw[D,H];unfold wrap64;omega
theorem vF (y:World) (G:Nat) (rest:List Value) (n c:Nat) (hn:n≤1000000) (kf:Nat) (cap:Array Value) (ci:SR→SR→Int) (S:SR→Prop) (hC:tK y G kf cap ci S) (P:List SR) (x:SR) (B Q:List SR) (b9:S x) (hS:∀ z∈B,S z) (hB:0<B.length) (b6:lJ (bO ci) B) (bc:P.length+1+B.length+Q.length=n) (a m b:Nat) (ha:a=P.length) (hm:m=P.length+1) (I:b=P.length+1+B.length) (w:World) (h:aG y G rest (P++(x::(B++Q))) w) :
  Calls Tryz.prog 186 #[FD (some ⟨G,0,none⟩) n c,FH FI (a:Int),FH FI (m:Int),FH FI (b:Int),.func (.func kf) #[] cap] w fun e w'=>e=FF (.tuple #[])∧aG y G rest (P++(mg (bO ci) [x] B++Q)) w':=by
 have HS:=Fk h;have c3:=Fk hS;have ct:=Fk b9;have b0:=Fk b6;have HC:=Fk hC;have he:=hC.he;have cx:IntKind.i64.wrap ((m:Int)-(a:Int))=1:=by simp[IntKind.wrap,IntKind.bits,IntKind.signed];omega
 have V:a=P.length∧m=P.length+1∧b=P.length+1+B.length∧P.length+1+B.length+Q.length=n∧0<B.length:=⟨ha,hm,I,bc,hB⟩;have b4:=Fk V;clear h hS hC V ha I bc hm hB b9 b6;go_enter Tryz.func186,Tryz.ntmps186
 go_wp2_with fail
 clear cx;go_loopw [10,11] (fun vi vj wr=>∃ i j:Nat,vi=FH FI (i:Int)∧vj=FH FI (j:Int)∧m≤i∧i≤j∧j≤b∧Hid (∀ k,i=m+k+1→∀ hk:k<B.length,bO ci x B[k]=false)∧Hid (∀ k,j=m+k→∀ hk:k<B.length,bO ci x B[k]=true)∧Hid (aG y G rest (P++(x::(B++Q))) wr)) (fun vi vj _=>(intOf vj).toNat-(intOf vi).toNat)
 case atStart =>
  have V:=b4.out;exact ⟨m,b,rfl,rfl,by omega,by omega,by omega,Fk (fun k hk=>absurd hk (by omega)),Fk (fun k hk hk'=>absurd hk (by omega)),HS⟩
 clear HS;obtain ⟨i,j,rfl,rfl,a4,bk,a3,HL,HR,HI⟩:=hrel;have V:=b4.out;by_cases d3:i<j
 ·have ba:(i:Int)<(j:Int):=by omega
  obtain ⟨h,hh⟩:∃ h:Nat,(i+j) / 2=h:=⟨_,rfl⟩
  have bt:IntKind.i64.wrap ((i:Int)+(j:Int))=((i+j:Nat):Int):=by simp[IntKind.wrap,IntKind.bits,IntKind.signed];omega
  have a9:=Fk (lB i j h (by omega) hh);obtain ⟨k,hk⟩:∃ k,h-m=k:=⟨_,rfl⟩
  have a6:k<B.length:=by omega
  obtain ⟨z,hz⟩:∃ z,B[k]=z:=⟨_,rfl⟩
  have x1:wr.cell? ⟨G,h,none⟩=some (FD z.A z.n z.c):=by
   have h1:=HI.out;rw[show P++(x::(B++Q))=(P++[x])++(B++Q) by simp] at h1;refine h1.get ?_;rw[rW (P++[x]) B Q (k:=k) (by simp;omega) a6,hz]
  have x2:wr.cell? ⟨G,a,none⟩=some (FD x.A x.n x.c):=HI.out.at V.1;have lG:G<wr.heap.size:=HI.out.b.lt;have d2:(h:Int)<(n:Int):=by omega
  have dv:(a:Int)<(n:Int):=by omega
  have d1:IntKind.i64.wrap ((h:Int)+1)=((h+1:Nat):Int):=by simp[IntKind.wrap,IntKind.bits,IntKind.signed];omega
  obtain ⟨r,hr⟩:∃ r,ci z x=r:=⟨_,rfl⟩
  have ca:Hid (∀ W,aa [] wr W→Calls Tryz.prog kf (#[FD z.A z.n z.c,FD x.A x.n x.c]++cap) W fun e W'=>e=FF (FH FI r)∧aa [] W W'):=Fk (fun W kk=>by
   rw[←hr];exact HC.out.c z x (c3.out z (by rw[←hz];exact Fs a6)) ct.out W (HI.out.k.trans kk.of_nil))
  have bj:i≤h:=by omega
  have b5:h<j:=by omega
  have a8:Hid (∀ k',h=m+k'→k'=k):=Fk (fun k' e=>by omega);have HZ:=Fk hz;have a5:=Fk hr;by_cases bv:r<0
  ·have av:Hid (∀ wx,aa [] wr wx→∃ i2 j2:Nat,(FH FI ((h+1:Nat):Int):Value)=FH FI (i2:Int)∧(FH FI (j:Int):Value)=FH FI (j2:Int)∧m≤i2∧i2≤j2∧j2≤b∧Hid (∀ k,i2=m+k+1→∀ hk:k<B.length,bO ci x B[k]=false)∧Hid (∀ k,j2=m+k→∀ hk:k<B.length,bO ci x B[k]=true)∧Hid (aG y G rest (P++(x::(B++Q))) wx)):=Fk (fun wx kx=>by
    refine ⟨h+1,j,rfl,rfl,by omega,by omega,a3,Fk (fun k' e hk'=>?_),HR,Fk (HI.out.keep kx)⟩;obtain rfl:=a8.out k' (by omega);rw[HZ.out];exact rV (by rw[a5.out];exact bv))
   have a0:Hid (j-(h+1)<j-i):=Fk (by omega);clear HZ a5 a8 V hh hk a6 hz hr bj b5 a4 bk a3;go_upto_region 5 with (fail)
   rw[a9.out];clear bt;refine ah (by kernel_rfl) (by kernel_rfl) ?_;repeat (go_big_quiet_step (with_reducible exact KW.of ca.out _))
   refine wpQuiet_nil ?_;intro wx kx;have HN:=Fk (av.out wx kx);clear x1 x2 lG kx;go_wp2;go_roundw
   case rel=>exact HN.out
   case measure=>simpa[intOf] using a0.out
  have av:Hid (∀ wx,aa [] wr wx→∃ i2 j2:Nat,(FH FI (i:Int):Value)=FH FI (i2:Int)∧(FH FI (h:Int):Value)=FH FI (j2:Int)∧m≤i2∧i2≤j2∧j2≤b∧Hid (∀ k,i2=m+k+1→∀ hk:k<B.length,bO ci x B[k]=false)∧Hid (∀ k,j2=m+k→∀ hk:k<B.length,bO ci x B[k]=true)∧Hid (aG y G rest (P++(x::(B++Q))) wx)):=Fk (fun wx kx=>by
   refine ⟨i,h,rfl,rfl,a4,bj,by omega,HL,Fk (fun k' e hk'=>?_),Fk (HI.out.keep kx)⟩;obtain rfl:=a8.out k' e;rw[HZ.out];exact nr (by rw[a5.out];exact bv))
  have a0:Hid (h-i<j-i):=Fk (by omega);clear HZ a5 a8 V hh hk a6 hz hr bj b5 a4 bk a3;go_upto_region 5 with (fail)
  rw[a9.out];clear bt;refine ah (by kernel_rfl) (by kernel_rfl) ?_;repeat (go_big_quiet_step (with_reducible exact KW.of ca.out _))
  refine wpQuiet_nil ?_;intro wx kx;have HN:=Fk (av.out wx kx);clear x1 x2 lG kx;go_wp2;go_roundw
  case rel=>exact HN.out
  case measure=>simpa[intOf] using a0.out
 have dz:¬(i:Int)<(j:Int):=by omega
 obtain rfl:i=j:=by omega
 obtain ⟨t,ht⟩:∃ t,i-m=t:=⟨_,rfl⟩
 obtain ⟨B1,a7⟩:∃ L,B.take t=L:=⟨_,rfl⟩
 obtain ⟨B2,bq⟩:∃ L,B.drop t=L:=⟨_,rfl⟩
 have bm:B1++B2=B:=by rw[←a7,←bq,List.take_append_drop]
 have cy:B1.length=t:=by rw[←a7,Fw];omega
 have h1:∀ z∈B1,bO ci x z=false:=fun z hz=>by
  rw[←a7] at hz;obtain ⟨q,hq,rfl⟩:=List.getElem_of_mem hz;rw[Fw] at hq;rw[List.getElem_take];have h2:=HL.out (t-1) (by omega) (by omega)
  cases hx:bO ci x (B[q]'(by omega)) with
  | false=>rfl
  | true =>
   have h3:bO ci x (B[t-1]'(by omega))=true:=by
    rcases Nat.lt_or_ge q (t-1) with a2|dt
    ·exact HC.out.ord.trans _ _ _ hx (List.pairwise_iff_getElem.1 b0.out q (t-1) (by omega) (by omega) a2)
    obtain rfl:q=t-1:=by omega
    exact hx
   rw[h2] at h3;cases h3
 have h2:∀ z∈B2,bO ci x z=true:=fun z hz=>by
  rw[←bq] at hz;obtain ⟨q,hq,rfl⟩:=List.getElem_of_mem hz;rw[List.length_drop] at hq;rw[List.getElem_drop];have h3:=HR.out t (by omega) (by omega);rcases Nat.eq_zero_or_pos q with rfl|dr
  ·exact h3
  exact HC.out.ord.trans _ _ _ h3 (List.pairwise_iff_getElem.1 b0.out t (t+q) (by omega) (by omega) (by omega))
 have bz:mg (bO ci) [x] B=B1++x::B2:=by rw[←bm];exact Dl h1 h2
 have cz:=Fk bz;have b3:Hid (aG y G rest (P++(B1.take 0++(x::(B1.drop 0++(B2++Q))))) wr):=Fk (by
  have h:=HI.out;rw[←bm] at h;simpa using h)
 obtain ⟨i1,co⟩:∃ i1,a+t=i1:=⟨_,rfl⟩
 have ds:IntKind.i64.wrap ((i:Int)-1)=(i1:Int):=by simp[IntKind.wrap,IntKind.bits,IntKind.signed];omega
 have HX:Hid (a=P.length∧i1=a+B1.length∧a+1+B1.length≤n):=Fk ⟨V.1,by omega,by omega⟩;clear V ht a7 bq bm cy h1 h2 bz co a4 bk a3 HI HL HR;go_wp2_with fail
 go_loopw [13] (fun v wx=>∃ k t:Nat,v=FH FI (k:Int)∧k=a+t∧t≤B1.length∧Hid (aG y G rest (P++(B1.take t++(x::(B1.drop t++(B2++Q))))) wx)) (fun v _=>i1-(intOf v).toNat)
 case atStart=>exact ⟨a,0,rfl,rfl,Fu _,b3⟩
 clear b3;obtain ⟨p,t,rfl,bZ,bX,HI⟩:=hrel;obtain ⟨u,rfl⟩:∃ u:World,u=wr:=⟨_,rfl⟩
 have hx:=HX.out;by_cases a2:p<i1
 ·have ba:(p:Int)<(i1:Int):=by omega
  have bo:t<B1.length:=by omega
  obtain ⟨z,hz⟩:∃ z,B1[t]=z:=⟨_,rfl⟩
  obtain ⟨q,hq⟩:∃ q,p+1=q:=⟨_,rfl⟩
  have d0:(p:Int)<(n:Int):=by omega
  have dB:(q:Int)<(n:Int):=by omega
  have d4:IntKind.i64.wrap ((p:Int)+1)=(q:Int):=by simp[IntKind.wrap,IntKind.bits,IntKind.signed];omega
  have eX:P++(B1.take t++(x::(B1.drop t++(B2++Q))))=(P++B1.take t)++x::([]++z::(B1.drop (t+1)++(B2++Q))):=by
   rw[jw bo,hz];simp
  have eY:P++(B1.take (t+1)++(x::(B1.drop (t+1)++(B2++Q))))=(P++B1.take t)++z::([]++x::(B1.drop (t+1)++(B2++Q))):=by
   rw[lA bo,hz];simp
  have aA:p=(P++B1.take t).length:=by rw[Fo,Fw];omega
  rw[eX] at HI;obtain ⟨X,hX⟩:∃ X,P++B1.take t=X:=⟨_,rfl⟩
  obtain ⟨Z,hZ⟩:∃ Z,B1.drop (t+1)++(B2++Q)=Z:=⟨_,rfl⟩
  rw[hX,hZ] at HI;rw[hX] at aA;have br:q=X.length+1+([]:List SR).length:=by rw[←aA];exact hq.symm
  have c4:Hid (∀ wx,aG y G rest (X++z::([]++x::Z)) wx→∃ k t:Nat,(FH FI (q:Int):Value)=FH FI (k:Int)∧k=a+t∧t≤B1.length∧Hid (aG y G rest (P++(B1.take t++(x::(B1.drop t++(B2++Q))))) wx)):=Fk (fun wx h=>⟨q,t+1,rfl,by omega,by omega,Fk (by rw[eY,hX,hZ];exact h)⟩);have HB:=Fk HI.out.b;have b7:Hid ((bf (X++x::([]++z::Z)) rest)[p]? = some (FD x.A x.n x.c)):=Fk (qN X _ x rest aA);have b8:Hid ((bf (X++x::([]++z::Z)) rest)[q]? = some (FD z.A z.n z.c)):=Fk (oT X [] Z x z rest br);have c7:Hid (p≠q):=Fk (by omega);have c8:=Fk (wN X [] Z x z rest aA br);have a0:Hid (i1-q<i1-p):=Fk (by omega);clear eX eY hX hZ aA br hz hq bo bX bZ hx a2;go_upto_block 3 with (fail)
  go_cut [] (fun wy=>Hid (aG y G rest (X++z::([]++x::Z)) wy))
  case first =>
   rename_i J1 K1 cr c1;go_upto_region 11 with (fail)
   refine eo (by kernel_rfl) (by kernel_rfl) (by kernel_rfl) (fun (_:Unit) ix=>([FD (some ⟨G,0,none⟩) n c,FH FI (p:Int),FD (some ⟨G,0,none⟩) n c,FH FI (p:Int),FH FI (q:Int),FD (some ⟨G,0,none⟩) n c,FH FI (p:Int),FH FI (q:Int),FE (some ⟨G,q,none⟩),FD z.A z.n z.c,FD (some ⟨G,0,none⟩) n c,FH FI (p:Int),FE (some ⟨G,p,none⟩),FD x.A x.n x.c,FE (some ⟨G,p,none⟩),undef,FE (some ⟨G,q,none⟩),undef]:List Value).getD ix undef) (fun (_:Unit) L w'=>oS u G 89 (bf (X++x::([]++z::Z)) rest) p q (FD z.A z.n z.c) (FD x.A x.n x.c) 9 13 15 17 L w') ⟨(),oS.start HB.out⟩ ?_ ?_
   ·show oR _ 18
    refine ⟨⟨⟨⟨⟨⟨⟨⟨⟨⟨⟨⟨⟨⟨⟨⟨⟨⟨trivial,?_⟩,?_⟩,?_⟩,?_⟩,?_⟩,?_⟩,?_⟩,?_⟩,?_⟩,?_⟩,?_⟩,?_⟩,?_⟩,?_⟩,?_⟩,?_⟩,?_⟩,?_⟩
    ·intro I g L N O U J D H
     have e0:N.tmps.getD 0 undef=FD (some ⟨G,0,none⟩) n c:=D.old 0 (by kernel_rfl);have M:=H.far (k:=0) (by decide) (by decide);refine am (g:=g) rfl I rfl D (by exact M) ?_;show (execOp _ _).run _ _=Result.ok (.value (FD (some ⟨G,0,none⟩) n c)) _;clear M D J I H;simp only[execOp,Act.eval,e0];go_simp
    ·intro I g L N O U J D H
     have ad:N.tmps.getD 13 undef=FH FI (p:Int):=D.old 13 (by kernel_rfl);have M:=H.far (k:=1) (by decide) (by decide);refine am (g:=g) rfl I rfl D (by exact M) ?_;show (execOp _ _).run _ _=Result.ok (.value (FH FI (p:Int))) _;clear M D J I H;simp only[execOp,Act.eval,ad];go_simp
    ·intro I g L N O U J D H
     have e0:N.tmps.getD 0 undef=FD (some ⟨G,0,none⟩) n c:=D.old 0 (by kernel_rfl);have M:=H.far (k:=2) (by decide) (by decide);refine am (g:=g) rfl I rfl D (by exact M) ?_;show (execOp _ _).run _ _=Result.ok (.value (FD (some ⟨G,0,none⟩) n c)) _;clear M D J I H;simp only[execOp,Act.eval,e0];go_simp
    ·intro I g L N O U J D H
     have ad:N.tmps.getD 13 undef=FH FI (p:Int):=D.old 13 (by kernel_rfl);have M:=H.far (k:=3) (by decide) (by decide);refine am (g:=g) rfl I rfl D (by exact M) ?_;show (execOp _ _).run _ _=Result.ok (.value (FH FI (p:Int))) _;clear M D J I H;simp only[execOp,Act.eval,ad];go_simp
    ·intro I g L N O U J D H
     have cj:N.tmps.getD 64 undef=FH FI (p:Int):=D.y 3 _ 64 rfl rfl (J 3 (by kernel_rfl));have M:=H.far (k:=4) (by decide) (by decide);refine am (g:=g) rfl I rfl D (by exact M) ?_;show (execOp _ _).run _ _=Result.ok (.value (FH FI (q:Int))) _;clear M D J I H;simp only[execOp,Act.eval,cj];go_simp
    ·intro I g L N O U J D H
     have e0:N.tmps.getD 0 undef=FD (some ⟨G,0,none⟩) n c:=D.old 0 (by kernel_rfl);have M:=H.far (k:=5) (by decide) (by decide);refine am (g:=g) rfl I rfl D (by exact M) ?_;show (execOp _ _).run _ _=Result.ok (.value (FD (some ⟨G,0,none⟩) n c)) _;clear M D J I H;simp only[execOp,Act.eval,e0];go_simp
    ·intro I g L N O U J D H
     have ad:N.tmps.getD 13 undef=FH FI (p:Int):=D.old 13 (by kernel_rfl);have M:=H.far (k:=6) (by decide) (by decide);refine am (g:=g) rfl I rfl D (by exact M) ?_;show (execOp _ _).run _ _=Result.ok (.value (FH FI (p:Int))) _;clear M D J I H;simp only[execOp,Act.eval,ad];go_simp
    ·intro I g L N O U J D H
     have c9:N.tmps.getD 67 undef=FH FI (p:Int):=D.y 6 _ 67 rfl rfl (J 6 (by kernel_rfl));have M:=H.far (k:=7) (by decide) (by decide);refine am (g:=g) rfl I rfl D (by exact M) ?_;show (execOp _ _).run _ _=Result.ok (.value (FH FI (q:Int))) _;clear M D J I H;simp only[execOp,Act.eval,c9];go_simp
    ·intro I g L N O U J D H
     have c5:N.tmps.getD 66 undef=FD (some ⟨G,0,none⟩) n c:=D.y 5 _ 66 rfl rfl (J 5 (by kernel_rfl));have cm:N.tmps.getD 68 undef=FH FI (q:Int):=D.y 7 _ 68 rfl rfl (J 7 (by kernel_rfl));have M:=H.far (k:=8) (by decide) (by decide);refine am (g:=g) rfl I rfl D (by exact M) ?_;show (execOp _ _).run _ _=Result.ok (.value (FE (some ⟨G,q,none⟩))) _;clear M D J I H;simp only[execOp,Act.eval,c5,cm];go_simp
    ·intro I g L N O U J D H
     have cv:N.tmps.getD 69 undef=FE (some ⟨G,q,none⟩):=D.y 8 _ 69 rfl rfl (J 8 (by kernel_rfl));have M:=H.far (k:=9) (by decide) (by decide);obtain ⟨kk,bb⟩:=H.ld1 U;have x1:O.cell? ⟨G,q,none⟩=some (FD z.A z.n z.c):=(bb.cell _).trans b8.out;clear kk bb;refine am (g:=g) rfl I rfl D (by exact M) ?_;show (execOp _ _).run _ _=Result.ok (.value (FD z.A z.n z.c)) _;clear M D J I H;simp only[execOp,Act.eval,cv];go_simp
    ·intro I g L N O U J D H
     have e0:N.tmps.getD 0 undef=FD (some ⟨G,0,none⟩) n c:=D.old 0 (by kernel_rfl);have M:=H.far (k:=10) (by decide) (by decide);refine am (g:=g) rfl I rfl D (by exact M) ?_;show (execOp _ _).run _ _=Result.ok (.value (FD (some ⟨G,0,none⟩) n c)) _;clear M D J I H;simp only[execOp,Act.eval,e0];go_simp
    ·intro I g L N O U J D H
     have ad:N.tmps.getD 13 undef=FH FI (p:Int):=D.old 13 (by kernel_rfl);have M:=H.far (k:=11) (by decide) (by decide);refine am (g:=g) rfl I rfl D (by exact M) ?_;show (execOp _ _).run _ _=Result.ok (.value (FH FI (p:Int))) _;clear M D J I H;simp only[execOp,Act.eval,ad];go_simp
    ·intro I g L N O U J D H
     have cD:N.tmps.getD 71 undef=FD (some ⟨G,0,none⟩) n c:=D.y 10 _ 71 rfl rfl (J 10 (by kernel_rfl));have dq:N.tmps.getD 72 undef=FH FI (p:Int):=D.y 11 _ 72 rfl rfl (J 11 (by kernel_rfl));have M:=H.far (k:=12) (by decide) (by decide);refine am (g:=g) rfl I rfl D (by exact M) ?_;show (execOp _ _).run _ _=Result.ok (.value (FE (some ⟨G,p,none⟩))) _;clear M D J I H;simp only[execOp,Act.eval,cD,dq];go_simp
    ·intro I g L N O U J D H
     have cd:N.tmps.getD 73 undef=FE (some ⟨G,p,none⟩):=D.y 12 _ 73 rfl rfl (J 12 (by kernel_rfl));have M:=H.far (k:=13) (by decide) (by decide);obtain ⟨kk,bb⟩:=H.ld2 U;have x1:O.cell? ⟨G,p,none⟩=some (FD x.A x.n x.c):=(bb.cell _).trans b7.out;clear kk bb;refine am (g:=g) rfl I rfl D (by exact M) ?_;show (execOp _ _).run _ _=Result.ok (.value (FD x.A x.n x.c)) _;clear M D J I H;simp only[execOp,Act.eval,cd];go_simp
    ·intro I g L N O U J D H
     have cq:N.tmps.getD 61 undef=FD (some ⟨G,0,none⟩) n c:=D.y 0 _ 61 rfl rfl (J 0 (by kernel_rfl));have ce:N.tmps.getD 62 undef=FH FI (p:Int):=D.y 1 _ 62 rfl rfl (J 1 (by kernel_rfl));have M:=H.far (k:=14) (by decide) (by decide);refine am (g:=g) rfl I rfl D (by exact M) ?_;show (execOp _ _).run _ _=Result.ok (.value (FE (some ⟨G,p,none⟩))) _;clear M D J I H;simp only[execOp,Act.eval,cq,ce];go_simp
    ·intro I g L N O U J D H
     have cu:N.tmps.getD 75 undef=FE (some ⟨G,p,none⟩):=D.y 14 _ 75 rfl rfl (J 14 (by kernel_rfl));have cn:N.tmps.getD 70 undef=FD z.A z.n z.c:=D.y 9 _ 70 rfl rfl (J 9 (by kernel_rfl));obtain ⟨kk,bb⟩:=H.p0 U;have x1:O.cell? ⟨G,p,none⟩=some (FD x.A x.n x.c):=(bb.cell _).trans b7.out;have x2:O.frozen? ⟨G,p,none⟩=false:=bb.frozen _;refine dN (w':=O.setCell ⟨G,p,none⟩ (FD z.A z.n z.c)) rfl rfl ?_ ⟨g,D.put I rfl,H.b1 U (J 9 (by kernel_rfl)) (J 13 (by kernel_rfl)) (by decide)⟩;clear D J I H kk bb;simp only[execOp,Act.eval,cu,cn];go_simp
    ·intro I g L N O U J D H
     have cg:N.tmps.getD 63 undef=FD (some ⟨G,0,none⟩) n c:=D.y 2 _ 63 rfl rfl (J 2 (by kernel_rfl));have ch:N.tmps.getD 65 undef=FH FI (q:Int):=D.y 4 _ 65 rfl rfl (J 4 (by kernel_rfl));have M:=H.far (k:=16) (by decide) (by decide);refine am (g:=g) rfl I rfl D (by exact M) ?_;show (execOp _ _).run _ _=Result.ok (.value (FE (some ⟨G,q,none⟩))) _;clear M D J I H;simp only[execOp,Act.eval,cg,ch];go_simp
    intro I g L N O U J D H;have c6:N.tmps.getD 76 undef=FE (some ⟨G,q,none⟩):=D.y 16 _ 76 rfl rfl (J 16 (by kernel_rfl));have c0:N.tmps.getD 74 undef=FD x.A x.n x.c:=D.y 13 _ 74 rfl rfl (J 13 (by kernel_rfl));have h1:=J 15 (by kernel_rfl);obtain ⟨kk,bb⟩:=H.p1 h1 U;have x1:O.cell? ⟨G,q,none⟩=some (FD z.A z.n z.c):=(bb.cell _).trans (by rw[Array.getElem?_setIfInBounds,if_neg c7.out];exact b8.out);have x2:O.frozen? ⟨G,q,none⟩=false:=bb.frozen _;refine dN (w':=O.setCell ⟨G,q,none⟩ (FD x.A x.n x.c)) rfl rfl ?_ ⟨g,D.put I rfl,H.b2 U h1 (by decide)⟩;clear D J I H kk bb;simp only[execOp,Act.eval,c6,c0];go_simp
   intro g L w' be H
   (try simp only[Exit.inBlock,Exit.then])
   refine c1 _ _ (Met.intro (cr _ _ ?_));repeat apply Exists.intro
   exact ⟨Fk ⟨HI.out.k.trans (H.p2 (be 17 (by decide))).1,(H.p2 (be 17 (by decide))).2.congr c8.out⟩,rfl⟩
  have HN:=Fk (c4.out _ hcut.out);obtain ⟨y4,rfl⟩:∃ z:World,z=wc:=⟨_,rfl⟩
  clear hcut;go_wp2;go_roundw
  case rel=>exact HN.out
  case measure=>simpa[intOf] using a0.out
 have ba:¬(p:Int)<(i1:Int):=by omega
 have HF:Hid (aG y G rest (P++(mg (bO ci) [x] B++Q)) u):=Fk (by
  have h:=HI.out;rw[List.take_of_length_le (by omega),List.drop_of_length_le (by omega)] at h;rw[cz.out];simpa using h)
 clear hx bZ bX;go_wp2
 (try simp only[Exit.inBlock,Exit.then])
 refine bodyPost_ret (results_none rfl _ _ _) rfl ?_;exact ⟨rfl,HF.out⟩
theorem tL (y:World) (G:Nat) (rest:List Value) (n c:Nat) (hn:n≤1000000) (kf:Nat) (cap:Array Value) (ci:SR→SR→Int) (S:SR→Prop) (hC:tK y G kf cap ci S) (P A:List SR) (H:SR) (Q:List SR) (hS:∀ z∈A,S z) (cy:S H) (hA:2≤A.length) (ce:lJ (bO ci) A) (bj:P.length+A.length+1+Q.length=n) (a m b:Nat) (ha:a=P.length) (hm:m=P.length+A.length) (J:b=P.length+A.length+1) (w:World) (h:aG y G rest (P++(A++(H::Q))) w) :
  Calls Tryz.prog 186 #[FD (some ⟨G,0,none⟩) n c,FH FI (a:Int),FH FI (m:Int),FH FI (b:Int),.func (.func kf) #[] cap] w fun e w'=>e=FF (.tuple #[])∧aG y G rest (P++(mg (bO ci) A [H]++Q)) w':=by
 have HS:=Fk h;have dq:=Fk hS;have c0:=Fk cy;have b0:=Fk ce;have HC:=Fk hC;have he:=hC.he;have c6:IntKind.i64.wrap ((m:Int)-(a:Int))=(A.length:Int):=by simp[IntKind.wrap,IntKind.bits,IntKind.signed];omega
 have c4:IntKind.i64.wrap ((b:Int)-(m:Int))=1:=by simp[IntKind.wrap,IntKind.bits,IntKind.signed];omega
 have c1:((A.length:Int)==1)=false:=by rw[beq_eq_false_iff_ne];omega
 have ad:a=P.length∧m=P.length+A.length∧b=m+1∧P.length+A.length+1+Q.length=n∧2≤A.length:=⟨ha,hm,by omega,bj,hA⟩;have b8:=Fk ad;clear h hS hC ad ha J bj hm hA cy ce;go_enter Tryz.func186,Tryz.ntmps186
 go_wp2_with fail
 clear c6 c4 c1;go_loopw [14,15] (fun vi vj wr=>∃ i j:Nat,vi=FH FI (i:Int)∧vj=FH FI (j:Int)∧a≤i∧i≤j∧j≤m∧Hid (∀ k,i=a+k+1→∀ hk:k<A.length,bO ci A[k] H=true)∧Hid (∀ k,j=a+k→∀ hk:k<A.length,bO ci A[k] H=false)∧Hid (aG y G rest (P++(A++(H::Q))) wr)) (fun vi vj _=>(intOf vj).toNat-(intOf vi).toNat)
 case atStart =>
  have ad:=b8.out;exact ⟨a,m,rfl,rfl,by omega,by omega,by omega,Fk (fun k hk=>absurd hk (by omega)),Fk (fun k hk hk'=>absurd hk (by omega)),HS⟩
 clear HS;obtain ⟨i,j,rfl,rfl,ba,bq,a4,HL,HR,HI⟩:=hrel;have ad:=b8.out;by_cases d5:i<j
 ·have be:(i:Int)<(j:Int):=by omega
  obtain ⟨h,hh⟩:∃ h:Nat,(i+j) / 2=h:=⟨_,rfl⟩
  have bv:IntKind.i64.wrap ((i:Int)+(j:Int))=((i+j:Nat):Int):=by simp[IntKind.wrap,IntKind.bits,IntKind.signed];omega
  have bc:=Fk (lB i j h (by omega) hh);obtain ⟨k,hk⟩:∃ k,h-a=k:=⟨_,rfl⟩
  have a6:k<A.length:=by omega
  obtain ⟨z,hz⟩:∃ z,A[k]=z:=⟨_,rfl⟩
  have x1:wr.cell? ⟨G,h,none⟩=some (FD z.A z.n z.c):=by
   refine HI.out.get ?_;rw[rW P A (H::Q) (k:=k) (by omega) a6,hz]
  have x2:wr.cell? ⟨G,m,none⟩=some (FD H.A H.n H.c):=by
   have h1:=HI.out;rw[show P++(A++(H::Q))=(P++A)++H::Q by simp] at h1;exact h1.at (by rw[Fo];exact ad.2.1)
  have lG:G<wr.heap.size:=HI.out.b.lt;have d3:(h:Int)<(n:Int):=by omega
  have d4:(m:Int)<(n:Int):=by omega
  have d2:IntKind.i64.wrap ((h:Int)+1)=((h+1:Nat):Int):=by simp[IntKind.wrap,IntKind.bits,IntKind.signed];omega
  obtain ⟨r,hr⟩:∃ r,ci H z=r:=⟨_,rfl⟩
  have cx:Hid (∀ W,aa [] wr W→Calls Tryz.prog kf (#[FD H.A H.n H.c,FD z.A z.n z.c]++cap) W fun e W'=>e=FF (FH FI r)∧aa [] W W'):=Fk (fun W kk=>by
   rw[←hr];exact HC.out.c H z c0.out (dq.out z (by rw[←hz];exact Fs a6)) W (HI.out.k.trans kk.of_nil))
  have bm:i≤h:=by omega
  have cj:h<j:=by omega
  have a7:Hid (∀ k',h=a+k'→k'=k):=Fk (fun k' e=>by omega);have HZ:=Fk hz;have a5:=Fk hr;by_cases bz:r<0
  ·have aA:Hid (∀ wx,aa [] wr wx→∃ i2 j2:Nat,(FH FI (i:Int):Value)=FH FI (i2:Int)∧(FH FI (h:Int):Value)=FH FI (j2:Int)∧a≤i2∧i2≤j2∧j2≤m∧Hid (∀ k,i2=a+k+1→∀ hk:k<A.length,bO ci A[k] H=true)∧Hid (∀ k,j2=a+k→∀ hk:k<A.length,bO ci A[k] H=false)∧Hid (aG y G rest (P++(A++(H::Q))) wx)):=Fk (fun wx kx=>by
    refine ⟨i,h,rfl,rfl,ba,bm,by omega,HL,Fk (fun k' e hk'=>?_),Fk (HI.out.keep kx)⟩;obtain rfl:=a7.out k' e;rw[HZ.out];exact rV (by rw[a5.out];exact bz))
   have a2:Hid (h-i<j-i):=Fk (by omega);clear HZ a5 a7 ad hh hk a6 hz hr bm cj ba bq a4;go_upto_region 17 with (fail)
   rw[bc.out];clear bv;refine ah (by kernel_rfl) (by kernel_rfl) ?_;repeat (go_big_quiet_step (with_reducible exact KW.of cx.out _))
   refine wpQuiet_nil ?_;intro wx kx;have HN:=Fk (aA.out wx kx);clear x1 x2 lG kx;go_wp2;go_roundw
   case rel=>exact HN.out
   case measure=>simpa[intOf] using a2.out
  have aA:Hid (∀ wx,aa [] wr wx→∃ i2 j2:Nat,(FH FI ((h+1:Nat):Int):Value)=FH FI (i2:Int)∧(FH FI (j:Int):Value)=FH FI (j2:Int)∧a≤i2∧i2≤j2∧j2≤m∧Hid (∀ k,i2=a+k+1→∀ hk:k<A.length,bO ci A[k] H=true)∧Hid (∀ k,j2=a+k→∀ hk:k<A.length,bO ci A[k] H=false)∧Hid (aG y G rest (P++(A++(H::Q))) wx)):=Fk (fun wx kx=>by
   refine ⟨h+1,j,rfl,rfl,by omega,by omega,a4,Fk (fun k' e hk'=>?_),HR,Fk (HI.out.keep kx)⟩;obtain rfl:=a7.out k' (by omega);rw[HZ.out];exact nr (by rw[a5.out];exact bz))
  have a2:Hid (j-(h+1)<j-i):=Fk (by omega);clear HZ a5 a7 ad hh hk a6 hz hr bm cj ba bq a4;go_upto_region 17 with (fail)
  rw[bc.out];clear bv;refine ah (by kernel_rfl) (by kernel_rfl) ?_;repeat (go_big_quiet_step (with_reducible exact KW.of cx.out _))
  refine wpQuiet_nil ?_;intro wx kx;have HN:=Fk (aA.out wx kx);clear x1 x2 lG kx;go_wp2;go_roundw
  case rel=>exact HN.out
  case measure=>simpa[intOf] using a2.out
 have dB:¬(i:Int)<(j:Int):=by omega
 obtain rfl:i=j:=by omega
 obtain ⟨t,ht⟩:∃ t,i-a=t:=⟨_,rfl⟩
 obtain ⟨A1,a9⟩:∃ L,A.take t=L:=⟨_,rfl⟩
 obtain ⟨U,a8⟩:∃ L,A.drop t=L:=⟨_,rfl⟩
 have bo:A1++U=A:=by rw[←a9,←a8,List.take_append_drop]
 have c7:A1.length=t:=by rw[←a9,Fw];omega
 have c5:U.length=A.length-t:=by rw[←a8,List.length_drop]
 have h1:∀ z∈A1,bO ci z H=true:=fun z hz=>by
  rw[←a9] at hz;obtain ⟨q,hq,rfl⟩:=List.getElem_of_mem hz;rw[Fw] at hq;rw[List.getElem_take];have h2:=HL.out (t-1) (by omega) (by omega);rcases Nat.lt_or_ge q (t-1) with a3|dz
  ·exact HC.out.ord.trans _ _ _ (List.pairwise_iff_getElem.1 b0.out q (t-1) (by omega) (by omega) a3) h2
  obtain rfl:q=t-1:=by omega
  exact h2
 have h2:∀ z∈U,bO ci z H=false:=fun z hz=>by
  rw[←a8] at hz;obtain ⟨q,hq,rfl⟩:=List.getElem_of_mem hz;rw[List.length_drop] at hq;rw[List.getElem_drop];have h3:=HR.out t (by omega) (by omega)
  cases hx:bO ci (A[t+q]'(by omega)) H with
  | false=>rfl
  | true =>
   rcases Nat.eq_zero_or_pos q with rfl|dv
   ·exact hx.symm.trans h3
   have h4:=HC.out.ord.trans _ _ _ (List.pairwise_iff_getElem.1 b0.out t (t+q) (by omega) (by omega) (by omega)) hx;exact h4.symm.trans h3
 have bZ:mg (bO ci) A [H]=A1++H::U:=by rw[←bo];exact zN h1 h2
 have c8:=Fk bZ;have b5:Hid (aG y G rest (P++(A1++(U.take U.length++(H::(U.drop U.length++Q))))) wr):=Fk (by
  have h:=HI.out;rw[←bo] at h;simpa using h)
 have HX:Hid (a=P.length∧i=a+A1.length∧m=i+U.length∧m<n):=Fk ⟨ad.1,by omega,by omega,by omega⟩;clear ad ht a9 a8 bo c7 c5 h1 h2 bZ ba bq a4 HI HL HR;go_wp2_with fail
 go_loopw [17] (fun v wx=>∃ k t:Nat,v=FH FI (k:Int)∧k=i+t∧t≤U.length∧Hid (aG y G rest (P++(A1++(U.take t++(H::(U.drop t++Q))))) wx)) (fun v _=>(intOf v).toNat)
 case atStart=>exact ⟨m,U.length,rfl,HX.out.2.2.1,Fm _,b5⟩
 clear b5;obtain ⟨p,t,rfl,b4,b3,HI⟩:=hrel;obtain ⟨u,rfl⟩:∃ u:World,u=wr:=⟨_,rfl⟩
 have hx:=HX.out;by_cases a3:i<p
 ·have be:(p:Int)>(i:Int):=by omega
  obtain ⟨t',rfl⟩:∃ t',t=t'+1:=⟨t-1,by omega⟩
  have br:t'<U.length:=by omega
  obtain ⟨z,hz⟩:∃ z,U[t']=z:=⟨_,rfl⟩
  obtain ⟨q,hq⟩:∃ q,p-1=q:=⟨_,rfl⟩
  have d1:(p:Int)<(n:Int):=by omega
  have d0:(q:Int)<(n:Int):=by omega
  have d6:IntKind.i64.wrap ((p:Int)-1)=(q:Int):=by simp[IntKind.wrap,IntKind.bits,IntKind.signed];omega
  have eX:P++(A1++(U.take (t'+1)++(H::(U.drop (t'+1)++Q))))=(P++(A1++U.take t'))++z::([]++H::(U.drop (t'+1)++Q)):=by
   rw[lA br,hz];simp
  have eY:P++(A1++(U.take t'++(H::(U.drop t'++Q))))=(P++(A1++U.take t'))++H::([]++z::(U.drop (t'+1)++Q)):=by
   rw[jw br,hz];simp
  have a0:q=(P++(A1++U.take t')).length:=by rw[Fo,Fo,Fw];omega
  rw[eX] at HI;obtain ⟨X,hX⟩:∃ X,P++(A1++U.take t')=X:=⟨_,rfl⟩
  obtain ⟨Z,hZ⟩:∃ Z,U.drop (t'+1)++Q=Z:=⟨_,rfl⟩
  rw[hX,hZ] at HI;rw[hX] at a0;have bt:p=X.length+1+([]:List SR).length:=by
   rw[←a0];show p=q+1;omega
  have dr:Hid (∀ wx,aG y G rest (X++H::([]++z::Z)) wx→∃ k t:Nat,(FH FI (q:Int):Value)=FH FI (k:Int)∧k=i+t∧t≤U.length∧Hid (aG y G rest (P++(A1++(U.take t++(H::(U.drop t++Q))))) wx)):=Fk (fun wx h=>⟨q,t',rfl,by omega,by omega,Fk (by rw[eY,hX,hZ];exact h)⟩);have HB:=Fk HI.out.b;have cn:Hid ((bf (X++z::([]++H::Z)) rest)[q]? = some (FD z.A z.n z.c)):=Fk (qN X _ z rest a0);have cr:Hid ((bf (X++z::([]++H::Z)) rest)[p]? = some (FD H.A H.n H.c)):=Fk (oT X [] Z z H rest bt);have ds:Hid (p≠q):=Fk (by omega);have dt:=Fk (tI X [] Z z H rest a0 bt);have a2:Hid (q<p):=Fk (by omega);clear eX eY hX hZ a0 bt hz hq br b3 b4 hx a3;go_upto_block 7 with (fail)
  go_cut [] (fun wy=>Hid (aG y G rest (X++H::([]++z::Z)) wy))
  case first =>
   rename_i J1 K1 c3 c9;go_upto_region 23 with (fail)
   refine eo (by kernel_rfl) (by kernel_rfl) (by kernel_rfl) (fun (_:Unit) ix=>([FD (some ⟨G,0,none⟩) n c,FH FI (p:Int),FD (some ⟨G,0,none⟩) n c,FH FI (p:Int),FH FI (q:Int),FD (some ⟨G,0,none⟩) n c,FH FI (p:Int),FH FI (q:Int),FE (some ⟨G,q,none⟩),FD z.A z.n z.c,FD (some ⟨G,0,none⟩) n c,FH FI (p:Int),FE (some ⟨G,p,none⟩),FD H.A H.n H.c,FE (some ⟨G,p,none⟩),undef,FE (some ⟨G,q,none⟩),undef]:List Value).getD ix undef) (fun (_:Unit) L w'=>oS u G 89 (bf (X++z::([]++H::Z)) rest) p q (FD z.A z.n z.c) (FD H.A H.n H.c) 9 13 15 17 L w') ⟨(),oS.start HB.out⟩ ?_ ?_
   ·show oR _ 18
    refine ⟨⟨⟨⟨⟨⟨⟨⟨⟨⟨⟨⟨⟨⟨⟨⟨⟨⟨trivial,?_⟩,?_⟩,?_⟩,?_⟩,?_⟩,?_⟩,?_⟩,?_⟩,?_⟩,?_⟩,?_⟩,?_⟩,?_⟩,?_⟩,?_⟩,?_⟩,?_⟩,?_⟩
    ·intro J g L O V hL M D I
     have e0:O.tmps.getD 0 undef=FD (some ⟨G,0,none⟩) n c:=D.old 0 (by kernel_rfl);have N:=I.far (k:=0) (by decide) (by decide);refine am (g:=g) rfl J rfl D (by exact N) ?_;show (execOp _ _).run _ _=Result.ok (.value (FD (some ⟨G,0,none⟩) n c)) _;clear N D M J I;simp only[execOp,Act.eval,e0];go_simp
    ·intro J g L O V hL M D I
     have av:O.tmps.getD 17 undef=FH FI (p:Int):=D.old 17 (by kernel_rfl);have N:=I.far (k:=1) (by decide) (by decide);refine am (g:=g) rfl J rfl D (by exact N) ?_;show (execOp _ _).run _ _=Result.ok (.value (FH FI (p:Int))) _;clear N D M J I;simp only[execOp,Act.eval,av];go_simp
    ·intro J g L O V hL M D I
     have e0:O.tmps.getD 0 undef=FD (some ⟨G,0,none⟩) n c:=D.old 0 (by kernel_rfl);have N:=I.far (k:=2) (by decide) (by decide);refine am (g:=g) rfl J rfl D (by exact N) ?_;show (execOp _ _).run _ _=Result.ok (.value (FD (some ⟨G,0,none⟩) n c)) _;clear N D M J I;simp only[execOp,Act.eval,e0];go_simp
    ·intro J g L O V hL M D I
     have av:O.tmps.getD 17 undef=FH FI (p:Int):=D.old 17 (by kernel_rfl);have N:=I.far (k:=3) (by decide) (by decide);refine am (g:=g) rfl J rfl D (by exact N) ?_;show (execOp _ _).run _ _=Result.ok (.value (FH FI (p:Int))) _;clear N D M J I;simp only[execOp,Act.eval,av];go_simp
    ·intro J g L O V hL M D I
     have b9:O.tmps.getD 116 undef=FH FI (p:Int):=D.y 3 _ 116 rfl rfl (M 3 (by kernel_rfl));have N:=I.far (k:=4) (by decide) (by decide);refine am (g:=g) rfl J rfl D (by exact N) ?_;show (execOp _ _).run _ _=Result.ok (.value (FH FI (q:Int))) _;clear N D M J I;simp only[execOp,Act.eval,b9];go_simp
    ·intro J g L O V hL M D I
     have e0:O.tmps.getD 0 undef=FD (some ⟨G,0,none⟩) n c:=D.old 0 (by kernel_rfl);have N:=I.far (k:=5) (by decide) (by decide);refine am (g:=g) rfl J rfl D (by exact N) ?_;show (execOp _ _).run _ _=Result.ok (.value (FD (some ⟨G,0,none⟩) n c)) _;clear N D M J I;simp only[execOp,Act.eval,e0];go_simp
    ·intro J g L O V hL M D I
     have av:O.tmps.getD 17 undef=FH FI (p:Int):=D.old 17 (by kernel_rfl);have N:=I.far (k:=6) (by decide) (by decide);refine am (g:=g) rfl J rfl D (by exact N) ?_;show (execOp _ _).run _ _=Result.ok (.value (FH FI (p:Int))) _;clear N D M J I;simp only[execOp,Act.eval,av];go_simp
    ·intro J g L O V hL M D I
     have cd:O.tmps.getD 119 undef=FH FI (p:Int):=D.y 6 _ 119 rfl rfl (M 6 (by kernel_rfl));have N:=I.far (k:=7) (by decide) (by decide);refine am (g:=g) rfl J rfl D (by exact N) ?_;show (execOp _ _).run _ _=Result.ok (.value (FH FI (q:Int))) _;clear N D M J I;simp only[execOp,Act.eval,cd];go_simp
    ·intro J g L O V hL M D I
     have cv:O.tmps.getD 118 undef=FD (some ⟨G,0,none⟩) n c:=D.y 5 _ 118 rfl rfl (M 5 (by kernel_rfl));have cu:O.tmps.getD 120 undef=FH FI (q:Int):=D.y 7 _ 120 rfl rfl (M 7 (by kernel_rfl));have N:=I.far (k:=8) (by decide) (by decide);refine am (g:=g) rfl J rfl D (by exact N) ?_;show (execOp _ _).run _ _=Result.ok (.value (FE (some ⟨G,q,none⟩))) _;clear N D M J I;simp only[execOp,Act.eval,cv,cu];go_simp
    ·intro J g L O V hL M D I
     have cq:O.tmps.getD 121 undef=FE (some ⟨G,q,none⟩):=D.y 8 _ 121 rfl rfl (M 8 (by kernel_rfl));have N:=I.far (k:=9) (by decide) (by decide);obtain ⟨kk,bb⟩:=I.ld1 hL;have x1:V.cell? ⟨G,q,none⟩=some (FD z.A z.n z.c):=(bb.cell _).trans cn.out;clear kk bb;refine am (g:=g) rfl J rfl D (by exact N) ?_;show (execOp _ _).run _ _=Result.ok (.value (FD z.A z.n z.c)) _;clear N D M J I;simp only[execOp,Act.eval,cq];go_simp
    ·intro J g L O V hL M D I
     have e0:O.tmps.getD 0 undef=FD (some ⟨G,0,none⟩) n c:=D.old 0 (by kernel_rfl);have N:=I.far (k:=10) (by decide) (by decide);refine am (g:=g) rfl J rfl D (by exact N) ?_;show (execOp _ _).run _ _=Result.ok (.value (FD (some ⟨G,0,none⟩) n c)) _;clear N D M J I;simp only[execOp,Act.eval,e0];go_simp
    ·intro J g L O V hL M D I
     have av:O.tmps.getD 17 undef=FH FI (p:Int):=D.old 17 (by kernel_rfl);have N:=I.far (k:=11) (by decide) (by decide);refine am (g:=g) rfl J rfl D (by exact N) ?_;show (execOp _ _).run _ _=Result.ok (.value (FH FI (p:Int))) _;clear N D M J I;simp only[execOp,Act.eval,av];go_simp
    ·intro J g L O V hL M D I
     have ca:O.tmps.getD 123 undef=FD (some ⟨G,0,none⟩) n c:=D.y 10 _ 123 rfl rfl (M 10 (by kernel_rfl));have ct:O.tmps.getD 124 undef=FH FI (p:Int):=D.y 11 _ 124 rfl rfl (M 11 (by kernel_rfl));have N:=I.far (k:=12) (by decide) (by decide);refine am (g:=g) rfl J rfl D (by exact N) ?_;show (execOp _ _).run _ _=Result.ok (.value (FE (some ⟨G,p,none⟩))) _;clear N D M J I;simp only[execOp,Act.eval,ca,ct];go_simp
    ·intro J g L O V hL M D I
     have b7:O.tmps.getD 125 undef=FE (some ⟨G,p,none⟩):=D.y 12 _ 125 rfl rfl (M 12 (by kernel_rfl));have N:=I.far (k:=13) (by decide) (by decide);obtain ⟨kk,bb⟩:=I.ld2 hL;have x1:V.cell? ⟨G,p,none⟩=some (FD H.A H.n H.c):=(bb.cell _).trans cr.out;clear kk bb;refine am (g:=g) rfl J rfl D (by exact N) ?_;show (execOp _ _).run _ _=Result.ok (.value (FD H.A H.n H.c)) _;clear N D M J I;simp only[execOp,Act.eval,b7];go_simp
    ·intro J g L O V hL M D I
     have b6:O.tmps.getD 113 undef=FD (some ⟨G,0,none⟩) n c:=D.y 0 _ 113 rfl rfl (M 0 (by kernel_rfl));have cz:O.tmps.getD 114 undef=FH FI (p:Int):=D.y 1 _ 114 rfl rfl (M 1 (by kernel_rfl));have N:=I.far (k:=14) (by decide) (by decide);refine am (g:=g) rfl J rfl D (by exact N) ?_;show (execOp _ _).run _ _=Result.ok (.value (FE (some ⟨G,p,none⟩))) _;clear N D M J I;simp only[execOp,Act.eval,b6,cz];go_simp
    ·intro J g L O V hL M D I
     have co:O.tmps.getD 127 undef=FE (some ⟨G,p,none⟩):=D.y 14 _ 127 rfl rfl (M 14 (by kernel_rfl));have cD:O.tmps.getD 122 undef=FD z.A z.n z.c:=D.y 9 _ 122 rfl rfl (M 9 (by kernel_rfl));obtain ⟨kk,bb⟩:=I.p0 hL;have x1:V.cell? ⟨G,p,none⟩=some (FD H.A H.n H.c):=(bb.cell _).trans cr.out;have x2:V.frozen? ⟨G,p,none⟩=false:=bb.frozen _;refine dN (w':=V.setCell ⟨G,p,none⟩ (FD z.A z.n z.c)) rfl rfl ?_ ⟨g,D.put J rfl,I.b1 hL (M 9 (by kernel_rfl)) (M 13 (by kernel_rfl)) (by decide)⟩;clear D M J I kk bb;simp only[execOp,Act.eval,co,cD];go_simp
    ·intro J g L O V hL M D I
     have bX:O.tmps.getD 115 undef=FD (some ⟨G,0,none⟩) n c:=D.y 2 _ 115 rfl rfl (M 2 (by kernel_rfl));have cm:O.tmps.getD 117 undef=FH FI (q:Int):=D.y 4 _ 117 rfl rfl (M 4 (by kernel_rfl));have N:=I.far (k:=16) (by decide) (by decide);refine am (g:=g) rfl J rfl D (by exact N) ?_;show (execOp _ _).run _ _=Result.ok (.value (FE (some ⟨G,q,none⟩))) _;clear N D M J I;simp only[execOp,Act.eval,bX,cm];go_simp
    intro J g L O V hL M D I;have cg:O.tmps.getD 128 undef=FE (some ⟨G,q,none⟩):=D.y 16 _ 128 rfl rfl (M 16 (by kernel_rfl));have ch:O.tmps.getD 126 undef=FD H.A H.n H.c:=D.y 13 _ 126 rfl rfl (M 13 (by kernel_rfl));have h1:=M 15 (by kernel_rfl);obtain ⟨kk,bb⟩:=I.p1 h1 hL;have x1:V.cell? ⟨G,q,none⟩=some (FD z.A z.n z.c):=(bb.cell _).trans (by rw[Array.getElem?_setIfInBounds,if_neg ds.out];exact cn.out);have x2:V.frozen? ⟨G,q,none⟩=false:=bb.frozen _;refine dN (w':=V.setCell ⟨G,q,none⟩ (FD H.A H.n H.c)) rfl rfl ?_ ⟨g,D.put J rfl,I.b2 hL h1 (by decide)⟩;clear D M J I kk bb;simp only[execOp,Act.eval,cg,ch];go_simp
   intro g L w' bk I
   (try simp only[Exit.inBlock,Exit.then])
   refine c9 _ _ (Met.intro (c3 _ _ ?_));repeat apply Exists.intro
   exact ⟨Fk ⟨HI.out.k.trans (I.p2 (bk 17 (by decide))).1,(I.p2 (bk 17 (by decide))).2.congr dt.out⟩,rfl⟩
  have HN:=Fk (dr.out _ hcut.out);obtain ⟨y4,rfl⟩:∃ z:World,z=wc:=⟨_,rfl⟩
  clear hcut;go_wp2;go_roundw
  case rel=>exact HN.out
  case measure=>simpa[intOf] using a2.out
 have be:¬(p:Int)>(i:Int):=by omega
 have HF:Hid (aG y G rest (P++(mg (bO ci) A [H]++Q)) u):=Fk (by
  have h:=HI.out;obtain rfl:t=0:=by omega
  rw[c8.out];simpa using h)
 clear hx b4 b3;go_wp2
 (try simp only[Exit.inBlock,Exit.then])
 refine bodyPost_ret (results_none rfl _ _ _) rfl ?_;exact ⟨rfl,HF.out⟩
theorem vG (y:World) (G:Nat) (rest:List Value) (n c:Nat) (hn:n≤1000000) (cv:Value) (P A B Q:List SR) (hA:0<A.length) (hB:0<B.length) (a0:P.length+A.length+B.length+Q.length=n) (a m b:Nat) (ha:a=P.length) (hm:m=P.length+A.length) (hb:b=P.length+A.length+B.length) (w:World) (h:aG y G rest (P++(A++(B++Q))) w) :
  Calls Tryz.prog 198 #[FD (some ⟨G,0,none⟩) n c,FH FI (a:Int),FH FI (m:Int),FH FI (b:Int),cv] w fun e w'=>e=FF (.tuple #[])∧aG y G rest (P++(B++(A++Q))) w':=by
 have HS:=Fk h;clear h;have a9:IntKind.i64.wrap ((m:Int)-(a:Int))=(A.length:Int):=by simp[IntKind.wrap,IntKind.bits,IntKind.signed];omega
 have a8:IntKind.i64.wrap ((b:Int)-(m:Int))=(B.length:Int):=by simp[IntKind.wrap,IntKind.bits,IntKind.signed];omega
 have a3:a=P.length∧P.length+A.length=m∧P.length+A.length+B.length+Q.length=n:=⟨ha,hm.symm,a0⟩;have a4:=Fk a3;have HA:=Fk hA;have HB:=Fk hB;clear a3 a0 ha hm hb hA hB;go_enter Tryz.func198,Tryz.ntmps198
 go_wp2_with fail
 clear a9 a8;go_loopw [10,11] (fun vi vj wr=>∃ (M H D J:List SR) (i j p:Nat),vi=FH FI (i:Int)∧vj=FH FI (j:Int)∧i=H.length∧j=D.length∧p=M.length∧p+i=m∧0<i∧0<j∧p+i+j+J.length=n∧M++(D++(H++J))=P++(B++(A++Q))∧Hid (aG y G rest (M++(H++(D++J))) wr)) (fun vi vj _=>(intOf vi).toNat+(intOf vj).toNat)
 case atStart=>exact ⟨P,A,B,Q,A.length,B.length,P.length,rfl,rfl,rfl,rfl,rfl,a4.out.2.1,HA.out,HB.out,a4.out.2.2,rfl,HS⟩
 obtain ⟨M,H,D,J,i,j,p,rfl,rfl,hi,hj,hp,av,ad,aA,hl,he,HI⟩:=hrel;have HE:=Fk he;clear he HS;by_cases a1:i=j
 ·subst a1
  have hq:((i:Int) != (i:Int))=false:=by simp
  have ba:IntKind.i64.wrap ((m:Int)-(i:Int))=(p:Int):=by simp[IntKind.wrap,IntKind.bits,IntKind.signed];omega
  have O:Hid (Calls Tryz.prog 203 #[FD (some ⟨G,0,none⟩) n c,FH FI (p:Int),FH FI (m:Int),FH FI (i:Int),cv] wr fun e w'=>e=FF (.tuple #[])∧aG y G rest (P++(B++(A++Q))) w'):=Fk (by
   rw[←HE.out];exact gD y G rest n c hn cv M H [] D J (by omega) (by simp;omega) p m i hp (by simp;omega) hi wr HI.out)
  clear hi hj hp av ad aA hl;go_wp2_with ((with_reducible refine O.out.mono ?_);rintro e U ⟨rfl,Z⟩)
  go_end0
  exact ⟨rfl,Z⟩
 have hq:((i:Int) != (j:Int))=true:=by simp;omega
 have ba:IntKind.i64.wrap ((m:Int)-(i:Int))=(p:Int):=by simp[IntKind.wrap,IntKind.bits,IntKind.signed];omega
 by_cases a5:j<i
 ·have hg:(i:Int)>(j:Int):=by omega
  obtain ⟨i',hi'⟩:∃ i':Nat,i-j=i':=⟨_,rfl⟩
  have a6:IntKind.i64.wrap ((i:Int)-(j:Int))=(i':Int):=by simp[IntKind.wrap,IntKind.bits,IntKind.signed];omega
  have O:Hid (Calls Tryz.prog 203 #[FD (some ⟨G,0,none⟩) n c,FH FI (p:Int),FH FI (m:Int),FH FI (j:Int),cv] wr fun e w'=>e=FF (.tuple #[])∧aG y G rest (M++(D++(H.drop j++(H.take j++J)))) w'):=Fk (by
   refine gD y G rest n c hn cv M (H.take j) (H.drop j) D J (by simp;omega) (by simp;omega) p m j hp (by simp;omega) (by simp;omega) wr ?_;have h:=HI.out;rw[show H++(D++J)=H.take j++(H.drop j++(D++J)) by rw[←List.append_assoc (H.take j),List.take_append_drop]] at h;exact h)
  have HX:Hid (∀ U,aG y G rest (M++(D++(H.drop j++(H.take j++J)))) U→∃ (P2 A2 B2 Q2:List SR) (i2 V p2:Nat),(FH FI (i':Int):Value)=FH FI (i2:Int)∧(FH FI (j:Int):Value)=FH FI (V:Int)∧i2=A2.length∧V=B2.length∧p2=P2.length∧p2+i2=m∧0<i2∧0<V∧p2+i2+V+Q2.length=n∧P2++(B2++(A2++Q2))=P++(B++(A++Q))∧Hid (aG y G rest (P2++(A2++(B2++Q2))) U)):=Fk (fun U Z=>by
   refine ⟨M++D,H.drop j,H.take j,J,i',j,p+j,rfl,rfl,by simp;omega,by simp;omega,by simp;omega,by omega,by omega,aA,by omega,?_,Fk (by simpa using Z)⟩;rw[←HE.out];simp only[List.append_assoc];rw[←List.append_assoc (H.take j),List.take_append_drop])
  have N:i'+j<i+j:=by omega
  have a2:=Fk N;clear N hi hj hp av ad aA hl hi' a5 a1;go_wp2_with ((with_reducible refine O.out.mono ?_);rintro e U ⟨rfl,Z⟩)
  go_roundw
  case rel=>exact HX.out _ Z
  case measure=>simpa[intOf] using a2.out
 have hg:¬(i:Int)>(j:Int):=by omega
 obtain ⟨I,hj'⟩:∃ I:Nat,j-i=I:=⟨_,rfl⟩
 obtain ⟨q,a7⟩:∃ q:Nat,m+j-i=q:=⟨_,rfl⟩
 have a6:IntKind.i64.wrap ((j:Int)-(i:Int))=(I:Int):=by simp[IntKind.wrap,IntKind.bits,IntKind.signed];omega
 have bb:IntKind.i64.wrap ((m:Int)+(j:Int))=(m:Int)+(j:Int):=by simp[IntKind.wrap,IntKind.bits,IntKind.signed];omega
 have bc:IntKind.i64.wrap ((m:Int)+(j:Int)-(i:Int))=(q:Int):=by simp[IntKind.wrap,IntKind.bits,IntKind.signed];omega
 have O:Hid (Calls Tryz.prog 203 #[FD (some ⟨G,0,none⟩) n c,FH FI (p:Int),FH FI (q:Int),FH FI (i:Int),cv] wr fun e w'=>e=FF (.tuple #[])∧aG y G rest (M++(D.drop I++(D.take I++(H++J)))) w'):=Fk (by
  refine gD y G rest n c hn cv M H (D.take I) (D.drop I) J (by simp;omega) (by simp;omega) p q i hp (by simp;omega) hi wr ?_;have h:=HI.out;rw[show D++J=D.take I++(D.drop I++J) by rw[←List.append_assoc (D.take I),List.take_append_drop]] at h;exact h)
 have HX:Hid (∀ U,aG y G rest (M++(D.drop I++(D.take I++(H++J)))) U→∃ (P2 A2 B2 Q2:List SR) (i2 V p2:Nat),(FH FI (i:Int):Value)=FH FI (i2:Int)∧(FH FI (I:Int):Value)=FH FI (V:Int)∧i2=A2.length∧V=B2.length∧p2=P2.length∧p2+i2=m∧0<i2∧0<V∧p2+i2+V+Q2.length=n∧P2++(B2++(A2++Q2))=P++(B++(A++Q))∧Hid (aG y G rest (P2++(A2++(B2++Q2))) U)):=Fk (fun U Z=>by
  refine ⟨M,D.drop I,D.take I,H++J,i,I,p,rfl,rfl,by simp;omega,by simp;omega,hp,av,ad,by omega,by simp;omega,?_,Fk Z⟩;rw[←HE.out,←List.append_assoc (D.take I),List.take_append_drop])
 have N:i+I<i+j:=by omega
 have a2:=Fk N;clear N hi hj hp av ad aA hl hj' a5 a1 a7;go_wp2_with ((with_reducible refine O.out.mono ?_);rintro e U ⟨rfl,Z⟩)
 go_roundw
 case rel=>exact HX.out _ Z
 case measure=>simpa[intOf] using a2.out
def AR (y:World) (G:Nat) (rest:List Value) (n c D:Nat) (cap:Array Value) (h:SR→SR→Int) (S:SR→Prop) (N:Nat):Prop :=
 ∀ (P A B Q:List SR),0<A.length→0<B.length→A.length+B.length<N→(∀ z∈A,S z)→(∀ z∈B,S z)→lJ (bO h) A→lJ (bO h) B→P.length+A.length+B.length+Q.length=n→∀ (a m b:Nat),a=P.length→m=P.length+A.length→b=P.length+A.length+B.length→∀ w,aG y G rest (P++(A++(B++Q))) w →
  Calls Tryz.prog 186 #[FD (some ⟨G,0,none⟩) n c,FH FI (a:Int),FH FI (m:Int),FH FI (b:Int),.func (.func D) #[] cap] w fun e w'=>e=FF (.tuple #[])∧aG y G rest (P++(mg (bO h) A B++Q)) w'
theorem Cn {α:Type} {le:α→α→Bool} (ho:iY le) {A B:List α} (hA:lJ le A) (hB:lJ le B) {a m b D J s N O e:Nat} (h1:m=a+A.length) (h2:b=m+B.length) (h3:(a+b) / 2=D) (h4:D+m=J) (hf:(D<m∧N+b=J∧O=D)∨(m≤D∧N=a∧O=m)) (a9:N≤s) (a7:s≤O) (he:J-s=e)
  (HL:s=N∨∀ i k (hi:i<A.length) (hk:k<B.length),s=a+i+1→J=s+m+k→le A[i] B[k]=true) (HR:s=O∨∀ i k (hi:i<A.length) (hk:k<B.length),s=a+i→J=1+s+m+k→le A[i] B[k]=false) :
  ∃ A1 M B1 B2:List α,A1++M=A∧B1++B2=B∧mg le A B=mg le A1 B1++mg le M B2∧s=a+A1.length∧m=s+M.length∧e=m+B1.length∧b=e+B2.length∧D=s+B1.length∧e=D+M.length∧s+e=J:=by
 have a1:a≤s∧s≤m∧m≤e∧e≤b∧s+e=J∧s≤D∧D≤e:=by omega
 obtain ⟨H,a8⟩:∃ t,s-a=t:=⟨_,rfl⟩
 obtain ⟨I,ba⟩:∃ t,e-m=t:=⟨_,rfl⟩
 have a4:(A.take H).length=H:=by rw[Fw];omega
 have a5:(A.drop H).length=A.length-H:=List.length_drop;have a6:(B.take I).length=I:=by rw[Fw];omega
 have a3:(B.drop I).length=B.length-I:=List.length_drop;have U:lJ le (A.take H):=List.Pairwise.sublist (List.take_sublist _ _) hA;have Z:lJ le (A.drop H):=List.Pairwise.sublist (List.drop_sublist _ _) hA;have av:lJ le (B.take I):=List.Pairwise.sublist (List.take_sublist _ _) hB;have ad:lJ le (B.drop I):=List.Pairwise.sublist (List.drop_sublist _ _) hB;have aA:∀ x∈A.take H,∀ z∈B.drop I,le x z=true:=BU ho U ad fun V a0 hn h0=>by
  rw[List.getElem_take,List.getElem_drop];rcases HL with h|h
  ·omega
  exact h V (I+0) (by omega) (by omega) (by omega) (by omega)
 have a2:∀ x∈A.drop H,∀ z∈B.take I,le x z=false:=BV ho Z av fun V a0 hn h0=>by
  rw[List.getElem_take,List.getElem_drop];rcases HR with h|h
  ·omega
  exact h (H+0) V (by omega) (by omega) (by omega) (by omega)
 refine ⟨A.take H,A.drop H,B.take I,B.drop I,List.take_append_drop _ _,List.take_append_drop _ _,?_,by omega,by omega,by omega,by omega,by omega,by omega,a1.2.2.2.2.1⟩;have h5:=eR (A.take H) (A.drop H) (B.take I) (B.drop I) aA a2;rwa [List.take_append_drop,List.take_append_drop] at h5
theorem vH (y:World) (G:Nat) (rest:List Value) (n c:Nat) (hn:n≤1000000) (kf:Nat) (cap:Array Value) (I:SR→SR→Int) (S:SR→Prop) (hC:tK y G kf cap I S) (P A B Q:List SR) (IH:AR y G rest n c kf cap I S (A.length+B.length)) (co:∀ z∈A,S z) (c6:∀ z∈B,S z) (hA:2≤A.length) (hB:2≤B.length) (cv:lJ (bO I) A) (cx:lJ (bO I) B) (ct:P.length+A.length+B.length+Q.length=n) (a m b:Nat) (ha:a=P.length) (hm:m=P.length+A.length) (hb:b=P.length+A.length+B.length) (w:World) (h:aG y G rest (P++(A++(B++Q))) w) :
    Calls Tryz.prog 186 #[FD (some ⟨G,0,none⟩) n c,FH FI (a:Int),FH FI (m:Int),FH FI (b:Int),.func (.func kf) #[] cap] w fun e w'=>e=FF (.tuple #[])∧aG y G rest (P++(mg (bO I) A B++Q)) w':=by
  have HS:=Fk h;have b0:=Fk co;have b1:=Fk c6;have dq:=Fk cv;have cq:=Fk cx;have HC:=Fk hC;have cj:=Fk IH;have he:=hC.he;obtain ⟨D,bb⟩:∃ D,(a+b) / 2=D:=⟨_,rfl⟩
  obtain ⟨Z,cz⟩:∃ Z,D+m=Z:=⟨_,rfl⟩
  obtain ⟨p,hp⟩:∃ p,Z-1=p:=⟨_,rfl⟩
  have HG:Hid (a=P.length∧m=a+A.length∧b=m+B.length∧b+Q.length=n∧2≤A.length∧2≤B.length∧(a+b) / 2=D∧D+m=Z∧Z=p+1):=Fk ⟨ha,by omega,by omega,by omega,hA,hB,bb,cz,by omega⟩;have d2:IntKind.i64.wrap ((m:Int)-(a:Int))=(A.length:Int):=by simp[IntKind.wrap,IntKind.bits,IntKind.signed];omega
  have dB:IntKind.i64.wrap ((b:Int)-(m:Int))=(B.length:Int):=by simp[IntKind.wrap,IntKind.bits,IntKind.signed];omega
  have ds:((A.length:Int)==1)=false:=by rw[beq_eq_false_iff_ne];omega
  have d3:((B.length:Int)==1)=false:=by rw[beq_eq_false_iff_ne];omega
  have bm:IntKind.i64.wrap ((a:Int)+(b:Int))=((a+b:Nat):Int):=by simp[IntKind.wrap,IntKind.bits,IntKind.signed];omega
  have d7:IntKind.i64.wrap ((D:Int)+(m:Int))=(Z:Int):=by simp[IntKind.wrap,IntKind.bits,IntKind.signed];omega
  have d5:IntKind.i64.wrap ((Z:Int)-1)=(p:Int):=by simp[IntKind.wrap,IntKind.bits,IntKind.signed];omega
  have a1:=Fk (lB a b D (by omega) bb);clear h hC ha hb ct hm hA hB cv cx co c6 IH bb cz hp;go_enter Tryz.func186,Tryz.ntmps186
  go_upto_region 25 with (fail)
  rw[a1.out];clear d2 dB ds d3 bm a1;go_upto_region 27 with (fail)
  clear d7;go_upto_if 140 with (fail)
  go_cut [20,21] from 138 to 146 (fun v1 v2 U=>∃ N O:Nat,v1=FH FI (N:Int)∧v2=FH FI (O:Int)∧Hid ((D<m∧N+b=Z∧O=D)∨(m≤D∧N=a∧O=m))∧Hid (aG y G rest (P++(A++(B++Q))) U))
  case first =>
    have hg:=HG.out;by_cases b8:D<m
    · have dt:(m:Int)>(D:Int):=by omega
      have dv:decide (D<m)=true:=decide_eq_true b8;obtain ⟨N,V⟩:∃ N,Z-b=N:=⟨_,rfl⟩
      obtain ⟨O,M⟩:∃ O,O=D:=⟨_,rfl⟩
      have b4:=Fk M;have d8:IntKind.i64.wrap ((Z:Int)-(b:Int))=(N:Int):=by simp[IntKind.wrap,IntKind.bits,IntKind.signed];omega
      have HF:Hid ((D<m∧N+b=Z∧O=D)∨(m≤D∧N=a∧O=m)):=Fk (.inl ⟨b8,by omega,M⟩);clear hg V M;go_wp2;go_meet;exact ⟨N,O,rfl,by rw[b4.out],HF,HS⟩
    · have dt:¬(m:Int)>(D:Int):=by omega
      have dv:decide (D<m)=false:=decide_eq_false b8;obtain ⟨N,V⟩:∃ N,N=a:=⟨_,rfl⟩
      obtain ⟨O,M⟩:∃ O,O=m:=⟨_,rfl⟩
      have b4:=Fk M;have d0:=Fk V;have HF:Hid ((D<m∧N+b=Z∧O=D)∨(m≤D∧N=a∧O=m)):=Fk (.inr ⟨by omega,V,M⟩);clear hg V M;go_wp2;go_meet;exact ⟨N,O,by rw[d0.out],by rw[b4.out],HF,HS⟩
  obtain ⟨N,O,rfl,rfl,HF,dr⟩:=hcut;obtain ⟨w,rfl⟩:∃ z:World,z=wc:=⟨_,rfl⟩
  have bt:Hid (∃ s r:Nat,(FH FI (N:Int):Value)=FH FI (s:Int)∧(FH FI (O:Int):Value)=FH FI (r:Int)∧N≤s∧s≤r∧r≤O∧Hid (s=N∨∀ i k (hi:i<A.length) (hk:k<B.length),s=a+i+1→Z=s+m+k→bO I A[i] B[k]=true)∧Hid (r=O∨∀ i k (hi:i<A.length) (hk:k<B.length),r=a+i→Z=1+r+m+k→bO I A[i] B[k]=false)∧Hid (aG y G rest (P++(A++(B++Q))) w)):=Fk (by
    have hg:=HG.out;have hf:=HF.out;exact ⟨N,O,rfl,rfl,Fm _,by omega,Fm _,Fk (.inl rfl),Fk (.inl rfl),dr⟩)
  clear HS dr;go_wp2_with fail
  clear d5;go_loopw [20,21] (fun v1 v2 wr=>∃ s r:Nat,v1=FH FI (s:Int)∧v2=FH FI (r:Int)∧N≤s∧s≤r∧r≤O∧Hid (s=N∨∀ i k (hi:i<A.length) (hk:k<B.length),s=a+i+1→Z=s+m+k→bO I A[i] B[k]=true)∧Hid (r=O∨∀ i k (hi:i<A.length) (hk:k<B.length),r=a+i→Z=1+r+m+k→bO I A[i] B[k]=false)∧Hid (aG y G rest (P++(A++(B++Q))) wr)) (fun v1 v2 _=>(intOf v2).toNat-(intOf v1).toNat)
  case atStart=>exact bt.out
  clear bt;obtain ⟨s,r,rfl,rfl,V,b6,M,HL,HR,HI⟩:=hrel;by_cases d4:s<r
  · have br:(s:Int)<(r:Int):=by omega
    have hg:=HG.out;have hf:=HF.out;obtain ⟨ce,b5⟩:∃ ce:Nat,(s+r) / 2=ce:=⟨_,rfl⟩
    have bk:s≤ce∧ce<r:=by omega
    have bm:IntKind.i64.wrap ((s:Int)+(r:Int))=((s+r:Nat):Int):=by simp[IntKind.wrap,IntKind.bits,IntKind.signed];omega
    have a1:=Fk (lB s r ce (by omega) b5);obtain ⟨i,hi⟩:∃ i,ce-a=i:=⟨_,rfl⟩
    obtain ⟨d,hd⟩:∃ d,p-ce=d:=⟨_,rfl⟩
    obtain ⟨k,hk⟩:∃ k,d-m=k:=⟨_,rfl⟩
    have hq:ce=a+i∧i<A.length∧d=m+k∧k<B.length∧p=ce+d:=by omega
    obtain ⟨za,a4⟩:∃ z,A[i]'hq.2.1=z:=⟨_,rfl⟩
    obtain ⟨zb,a5⟩:∃ z,B[k]'hq.2.2.2.1=z:=⟨_,rfl⟩
    have x1:wr.cell? ⟨G,ce,none⟩=some (FD za.A za.n za.c):=by
      refine HI.out.get ?_;rw[rW P A (B++Q) (k:=i) (by omega) hq.2.1,a4]
    have x2:wr.cell? ⟨G,d,none⟩=some (FD zb.A zb.n zb.c):=by
      have h1:=HI.out;rw[show P++(A++(B++Q))=(P++A)++(B++Q) by simp] at h1;refine h1.get ?_;rw[rW (P++A) B Q (k:=k) (by rw[Fo];omega) hq.2.2.2.1,a5]
    have lG:G<wr.heap.size:=HI.out.b.lt;have eb:(ce:Int)<(n:Int):=by omega
    have d9:(d:Int)<(n:Int):=by omega
    have en:IntKind.i64.wrap ((p:Int)-(ce:Int))=(d:Int):=by simp[IntKind.wrap,IntKind.bits,IntKind.signed];omega
    have el:IntKind.i64.wrap ((ce:Int)+1)=((ce+1:Nat):Int):=by simp[IntKind.wrap,IntKind.bits,IntKind.signed];omega
    obtain ⟨rr,a8⟩:∃ rr,I zb za=rr:=⟨_,rfl⟩
    have c8:Hid (∀ W,aa [] wr W→Calls Tryz.prog kf (#[FD zb.A zb.n zb.c,FD za.A za.n za.c]++cap) W fun e W'=>e=FF (FH FI rr)∧aa [] W W'):=Fk (fun W kk=>by
      rw[←a8];exact HC.out.c zb za (b1.out zb (by rw[←a5];exact Fs _)) (b0.out za (by rw[←a4];exact Fs _)) W (HI.out.k.trans kk.of_nil))
    by_cases bv:rr<0
    · have ba:Hid (∀ U,aa [] wr U→∃ s2 r2:Nat,(FH FI (s:Int):Value)=FH FI (s2:Int)∧(FH FI (ce:Int):Value)=FH FI (r2:Int)∧N≤s2∧s2≤r2∧r2≤O∧Hid (s2=N∨∀ i k (hi:i<A.length) (hk:k<B.length),s2=a+i+1→Z=s2+m+k→bO I A[i] B[k]=true)∧Hid (r2=O∨∀ i k (hi:i<A.length) (hk:k<B.length),r2=a+i→Z=1+r2+m+k→bO I A[i] B[k]=false)∧Hid (aG y G rest (P++(A++(B++Q))) U)):=Fk (fun U kx=>by
        refine ⟨s,ce,rfl,rfl,V,bk.1,by omega,HL,Fk (.inr fun i' k' hi' hk' e1 e2=>?_),Fk (HI.out.keep kx)⟩;obtain rfl:i'=i:=by omega
        obtain rfl:k'=k:=by omega
        rw[a4,a5];exact rV (by rw[a8];exact bv))
      have ca:Hid (ce-s<r-s):=Fk (by omega);clear a4 a5 a8 hq hi hd hk hg hf b5 bk V b6 M;go_upto_region 35 with (fail)
      rw[a1.out];clear bm;refine ah (by kernel_rfl) (by kernel_rfl) ?_;repeat (go_big_quiet_step (with_reducible exact KW.of c8.out _))
      refine wpQuiet_nil ?_;intro U kx;have HN:=Fk (ba.out U kx);clear x1 x2 lG kx;go_wp2;go_roundw
      case rel=>exact HN.out
      case measure=>simpa[intOf] using ca.out
    · have ba:Hid (∀ U,aa [] wr U→∃ s2 r2:Nat,(FH FI ((ce+1:Nat):Int):Value)=FH FI (s2:Int)∧(FH FI (r:Int):Value)=FH FI (r2:Int)∧N≤s2∧s2≤r2∧r2≤O∧Hid (s2=N∨∀ i k (hi:i<A.length) (hk:k<B.length),s2=a+i+1→Z=s2+m+k→bO I A[i] B[k]=true)∧Hid (r2=O∨∀ i k (hi:i<A.length) (hk:k<B.length),r2=a+i→Z=1+r2+m+k→bO I A[i] B[k]=false)∧Hid (aG y G rest (P++(A++(B++Q))) U)):=Fk (fun U kx=>by
        refine ⟨ce+1,r,rfl,rfl,by omega,by omega,M,Fk (.inr fun i' k' hi' hk' e1 e2=>?_),HR,Fk (HI.out.keep kx)⟩;obtain rfl:i'=i:=by omega
        obtain rfl:k'=k:=by omega
        rw[a4,a5];exact nr (by rw[a8];exact bv))
      have ca:Hid (r-(ce+1)<r-s):=Fk (by omega);clear a4 a5 a8 hq hi hd hk hg hf b5 bk V b6 M;go_upto_region 35 with (fail)
      rw[a1.out];clear bm;refine ah (by kernel_rfl) (by kernel_rfl) ?_;repeat (go_big_quiet_step (with_reducible exact KW.of c8.out _))
      refine wpQuiet_nil ?_;intro U kx;have HN:=Fk (ba.out U kx);clear x1 x2 lG kx;go_wp2;go_roundw
      case rel=>exact HN.out
      case measure=>simpa[intOf] using ca.out
  · have br:¬(s:Int)<(r:Int):=by omega
    obtain rfl:s=r:=by omega
    obtain ⟨e,c0⟩:∃ e,Z-s=e:=⟨_,rfl⟩
    obtain ⟨A1,H,B1,J,eA,eB,cm,q1,q2,q3,q4,q5,q6,q7⟩:=Cn HC.out.ord dq.out cq.out HG.out.2.1 HG.out.2.2.1 HG.out.2.2.2.2.2.2.1 HG.out.2.2.2.2.2.2.2.1 HF.out V M c0 HL.out HR.out;have cn:A1.length+H.length=A.length:=by rw[←eA,Fo]
    have c4:B1.length+J.length=B.length:=by rw[←eB,Fo]
    have b3:lJ (bO I) (A1++H):=by rw[eA];exact dq.out
    have b9:lJ (bO I) (B1++J):=by rw[eB];exact cq.out
    have cg:=(List.pairwise_append.1 b3).1;have c3:=(List.pairwise_append.1 b3).2.1;have cD:=(List.pairwise_append.1 b9).1;have cr:=(List.pairwise_append.1 b9).2.1;have c9:∀ z∈A1,S z:=fun z hz=>b0.out z (by rw[←eA];exact List.mem_append_left _ hz)
    have ch:∀ z∈H,S z:=fun z hz=>b0.out z (by rw[←eA];exact List.mem_append_right _ hz)
    have c7:∀ z∈B1,S z:=fun z hz=>b1.out z (by rw[←eB];exact List.mem_append_left _ hz)
    have c5:∀ z∈J,S z:=fun z hz=>b1.out z (by rw[←eB];exact List.mem_append_right _ hz)
    have cy:aG y G rest (P++(A1++(H++(B1++(J++Q))))) wr:=by
      have h3:=HI.out;rw[←eA,←eB] at h3;simpa using h3
    obtain ⟨g1,-,-,g4,g5,g6,g7,-,-⟩:=HG.out;have hq:a=P.length∧s=a+A1.length∧m=s+H.length∧e=m+B1.length∧b=e+J.length∧D=s+B1.length∧e=D+H.length∧b+Q.length=n∧a<D∧D<b∧A1.length+H.length=A.length∧B1.length+J.length=B.length:=⟨g1,q1,q2,q3,q4,q5,q6,g4,by omega,by omega,cn,c4⟩;have d6:IntKind.i64.wrap ((Z:Int)-(s:Int))=(e:Int):=by simp[IntKind.wrap,IntKind.bits,IntKind.signed];omega
    clear q1 q2 q3 q4 q5 q6 q7 g1 g4 g5 g6 g7 cn c4 c0 b3 b9 eA eB;have HQ:=Fk hq;have c1:=Fk cm;have bo:=Fk cy;have cu:Hid (0<H.length→0<B1.length→∀ w,aG y G rest (P++(A1++(H++(B1++(J++Q))))) w→Calls Tryz.prog 198 #[FD (some ⟨G,0,none⟩) n c,FH FI (s:Int),FH FI (m:Int),FH FI (e:Int),.func (.func kf) #[] cap] w fun ev w'=>ev=FF (.tuple #[])∧aG y G rest (P++(A1++(B1++(H++(J++Q))))) w'):=Fk (fun p1 p2 w h=>by
      have h3:=vG y G rest n c hn (.func (.func kf) #[] cap) (P++A1) H B1 (J++Q) p1 p2 (by simp only[Fo];omega) s m e (by simp only[Fo];omega) (by simp only[Fo];omega) (by simp only[Fo];omega) w (by simpa using h);simpa using h3)
    have d1:Hid (0<A1.length→0<B1.length→∀ w,aG y G rest (P++(A1++(B1++(H++(J++Q))))) w→Calls Tryz.prog 186 #[FD (some ⟨G,0,none⟩) n c,FH FI (a:Int),FH FI (s:Int),FH FI (D:Int),.func (.func kf) #[] cap] w fun ev w'=>ev=FF (.tuple #[])∧aG y G rest (P++(mg (bO I) A1 B1++(H++(J++Q)))) w'):=Fk (fun p1 p2 w h =>
      cj.out P A1 B1 (H++(J++Q)) p1 p2 (by omega) c9 c7 cg cD (by simp only[Fo];omega) a s D (by omega) (by omega) (by omega) w h)
    have dz:Hid (0<H.length→0<J.length→∀ w,aG y G rest (P++(mg (bO I) A1 B1++(H++(J++Q)))) w→Calls Tryz.prog 186 #[FD (some ⟨G,0,none⟩) n c,FH FI (D:Int),FH FI (e:Int),FH FI (b:Int),.func (.func kf) #[] cap] w fun ev w'=>ev=FF (.tuple #[])∧aG y G rest (P++(mg (bO I) A1 B1++(mg (bO I) H J++Q))) w'):=Fk (fun p1 p2 w h=>by
      have bq:=Dj (le:=bO I) A1 B1;have h3:=cj.out (P++mg (bO I) A1 B1) H J Q p1 p2 (by omega) ch c5 c3 cr (by rw[Fo,bq];omega) D e b (by rw[Fo,bq];omega) (by rw[Fo,bq];omega) (by rw[Fo,bq];omega) w (by simpa using h);simpa using h3)
    have E1:Hid (H.length=0∨B1.length=0→P++(A1++(H++(B1++(J++Q))))=P++(A1++(B1++(H++(J++Q))))):=Fk (fun h=>by
      rcases h with h|h
      · rw[List.eq_nil_of_length_eq_zero h];simp
      · rw[List.eq_nil_of_length_eq_zero h];simp)
    have E2:Hid (A1.length=0∨B1.length=0→P++(A1++(B1++(H++(J++Q))))=P++(mg (bO I) A1 B1++(H++(J++Q)))):=Fk (fun h=>by
      rcases h with h|h
      · rw[List.eq_nil_of_length_eq_zero h];simp[fI]
      · rw[List.eq_nil_of_length_eq_zero h];simp[fH])
    have E3:Hid (H.length=0∨J.length=0→P++(mg (bO I) A1 B1++(H++(J++Q)))=P++(mg (bO I) A1 B1++(mg (bO I) H J++Q))):=Fk (fun h=>by
      rcases h with h|h
      · rw[List.eq_nil_of_length_eq_zero h];simp[fI]
      · rw[List.eq_nil_of_length_eq_zero h];simp[fH])
    clear cg c3 cD cr cm c9 ch c7 c5 cy hq HI HL HR HF V b6 M d4;go_upto_region 39 with (fail)
    clear d6 br;obtain ⟨be,bZ⟩:∃ B,decide (s<m∧m<e)=B:=⟨_,rfl⟩
    have aA:=Fk bZ;clear bZ;go_cut [185] from 178 to 185 (fun v U=>v= .bool be∧Hid (aG y G rest (P++(A1++(H++(B1++(J++Q))))) U))
    case first =>
      by_cases q1:s<m
      · have bc:(s:Int)<(m:Int):=by omega
        by_cases q2:m<e
        · have bj:(m:Int)<(e:Int):=by omega
          have HV:Hid (be=true):=Fk (by rw[←aA.out];exact decide_eq_true ⟨q1,q2⟩);clear q1 q2;go_wp2;go_meet;exact ⟨by rw[HV.out],bo⟩
        · have bj:¬(m:Int)<(e:Int):=by omega
          have HV:Hid (be=false):=Fk (by rw[←aA.out];exact decide_eq_false fun h=>q2 h.2);clear q1 q2;go_wp2;go_meet;exact ⟨by rw[HV.out],bo⟩
      · have bc:¬(s:Int)<(m:Int):=by omega
        have HV:Hid (be=false):=Fk (by rw[←aA.out];exact decide_eq_false fun h=>q1 h.1);clear q1;go_wp2;go_meet;exact ⟨by rw[HV.out],bo⟩
    obtain ⟨rfl,ad⟩:=hcut;obtain ⟨z0,rfl⟩:∃ z:World,z=wc:=⟨_,rfl⟩
    clear bo;go_upto_if 185 with (fail)
    go_cut [] from 178 to 191 (fun U=>Hid (aG y G rest (P++(A1++(B1++(H++(J++Q))))) U))
    case first =>
      cases hb:be with
      | true =>
        have a6:=Fk (cu.out (by have hq:=HQ.out;have h:=of_decide_eq_true (aA.out.trans hb);omega) (by have hq:=HQ.out;have h:=of_decide_eq_true (aA.out.trans hb);omega) _ ad.out);clear hb;go_wp2_with ((with_reducible refine a6.out.mono ?_);rintro ev w6 ⟨rfl,h6⟩;have a2:=Fk h6)
        go_meet;exact a2
      | false =>
        have a2:Hid (aG y G rest (P++(A1++(B1++(H++(J++Q))))) z0):=Fk (by
          rw[←E1.out (by have hq:=HQ.out;have h:=of_decide_eq_false (aA.out.trans hb);omega)];exact ad.out)
        clear hb;go_wp2;go_meet;exact a2
    have a2:=hcut;obtain ⟨u0,rfl⟩:∃ z:World,z=wc:=⟨_,rfl⟩
    clear hcut ad;go_upto_region 41 with (fail)
    obtain ⟨a9,bX⟩:∃ B,decide (a<s∧s<D)=B:=⟨_,rfl⟩
    have a0:=Fk bX;clear bX;go_cut [199] from 192 to 199 (fun v U=>v= .bool a9∧Hid (aG y G rest (P++(A1++(B1++(H++(J++Q))))) U))
    case first =>
      by_cases q1:a<s
      · have bc:(a:Int)<(s:Int):=by omega
        by_cases q2:s<D
        · have bj:(s:Int)<(D:Int):=by omega
          have HV:Hid (a9=true):=Fk (by rw[←a0.out];exact decide_eq_true ⟨q1,q2⟩);clear q1 q2;go_wp2;go_meet;exact ⟨by rw[HV.out],a2⟩
        · have bj:¬(s:Int)<(D:Int):=by omega
          have HV:Hid (a9=false):=Fk (by rw[←a0.out];exact decide_eq_false fun h=>q2 h.2);clear q1 q2;go_wp2;go_meet;exact ⟨by rw[HV.out],a2⟩
      · have bc:¬(a:Int)<(s:Int):=by omega
        have HV:Hid (a9=false):=Fk (by rw[←a0.out];exact decide_eq_false fun h=>q1 h.1);clear q1;go_wp2;go_meet;exact ⟨by rw[HV.out],a2⟩
    obtain ⟨rfl,ad⟩:=hcut;obtain ⟨z1,rfl⟩:∃ z:World,z=wc:=⟨_,rfl⟩
    clear a2;go_upto_if 199 with (fail)
    go_cut [] from 192 to 205 (fun U=>Hid (aG y G rest (P++(mg (bO I) A1 B1++(H++(J++Q)))) U))
    case first =>
      cases hb:a9 with
      | true =>
        have a6:=Fk (d1.out (by have hq:=HQ.out;have h:=of_decide_eq_true (a0.out.trans hb);omega) (by have hq:=HQ.out;have h:=of_decide_eq_true (a0.out.trans hb);omega) _ ad.out);clear hb;go_wp2_with ((with_reducible refine a6.out.mono ?_);rintro ev w6 ⟨rfl,h6⟩;have a3:=Fk h6)
        go_meet;exact a3
      | false =>
        have a3:Hid (aG y G rest (P++(mg (bO I) A1 B1++(H++(J++Q)))) z1):=Fk (by
          rw[←E2.out (by have hq:=HQ.out;have h:=of_decide_eq_false (a0.out.trans hb);omega)];exact ad.out)
        clear hb;go_wp2;go_meet;exact a3
    have a3:=hcut;obtain ⟨u1,rfl⟩:∃ z:World,z=wc:=⟨_,rfl⟩
    clear hcut ad;go_upto_region 43 with (fail)
    obtain ⟨a7,bz⟩:∃ B,decide (D<e∧e<b)=B:=⟨_,rfl⟩
    have av:=Fk bz;clear bz;go_cut [213] from 206 to 213 (fun v U=>v= .bool a7∧Hid (aG y G rest (P++(mg (bO I) A1 B1++(H++(J++Q)))) U))
    case first =>
      by_cases q1:D<e
      · have bc:(D:Int)<(e:Int):=by omega
        by_cases q2:e<b
        · have bj:(e:Int)<(b:Int):=by omega
          have HV:Hid (a7=true):=Fk (by rw[←av.out];exact decide_eq_true ⟨q1,q2⟩);clear q1 q2;go_wp2;go_meet;exact ⟨by rw[HV.out],a3⟩
        · have bj:¬(e:Int)<(b:Int):=by omega
          have HV:Hid (a7=false):=Fk (by rw[←av.out];exact decide_eq_false fun h=>q2 h.2);clear q1 q2;go_wp2;go_meet;exact ⟨by rw[HV.out],a3⟩
      · have bc:¬(D:Int)<(e:Int):=by omega
        have HV:Hid (a7=false):=Fk (by rw[←av.out];exact decide_eq_false fun h=>q1 h.1);clear q1;go_wp2;go_meet;exact ⟨by rw[HV.out],a3⟩
    obtain ⟨rfl,ad⟩:=hcut;obtain ⟨z2,rfl⟩:∃ z:World,z=wc:=⟨_,rfl⟩
    clear a3
    cases hb:a7 with
    | true =>
      have a6:=Fk (dz.out (by have hq:=HQ.out;have h:=of_decide_eq_true (av.out.trans hb);omega) (by have hq:=HQ.out;have h:=of_decide_eq_true (av.out.trans hb);omega) _ ad.out);clear hb;go_wp2_with ((with_reducible refine a6.out.mono ?_);rintro ev w6 ⟨rfl,h6⟩;have cd:=Fk h6)
      have b7:Hid (aG y G rest (P++(mg (bO I) A B++Q)) w6):=Fk (by
        rw[c1.out,List.append_assoc];exact cd.out)
      go_end0
      exact ⟨rfl,b7.out⟩
    | false =>
      have cd:Hid (aG y G rest (P++(mg (bO I) A1 B1++(mg (bO I) H J++Q))) z2):=Fk (by
        rw[←E3.out (by have hq:=HQ.out;have h:=of_decide_eq_false (av.out.trans hb);omega)];exact ad.out)
      clear hb;go_wp2;have b7:Hid (aG y G rest (P++(mg (bO I) A B++Q)) z2):=Fk (by
        rw[c1.out,List.append_assoc];exact cd.out)
      go_end0
      exact ⟨rfl,b7.out⟩
end
section
open Go.RowKit Go.BigFrame
theorem AS (y:World) (G:Nat) (rest:List Value) (n c:Nat) (V:n≤1000000) (M:Nat) (cap:Array Value) (I:SR→SR→Int) (S:SR→Prop) (Z:tK y G M cap I S):∀ N,AR y G rest n c M cap I S N
 | 0=>fun _ _ _ _ _ _ h=>absurd h (by omega)
 | N+1=>by
  have ih:=AS y G rest n c V M cap I S Z N;intro P A B Q hA hB hN J H U O D a m b ha hm hb w h;by_cases av:A.length=1
  ·match A,av with
   | [x],_ =>
    have h':aG y G rest (P++(x::(B++Q))) w:=h;have hm':m=P.length+1:=hm;have hb':b=P.length+1+B.length:=hb;have hlen':P.length+1+B.length+Q.length=n:=D;exact vF y G rest n c V M cap I S Z P x B Q (J x (by simp)) H hB O hlen' a m b ha hm' hb' w h'
  by_cases ad:B.length=1
  ·match B,ad with
   | [z],_ =>
    have hb':b=P.length+A.length+1:=hb;have hlen':P.length+A.length+1+Q.length=n:=D;exact tL y G rest n c V M cap I S Z P A z Q J (H z (by simp)) (by omega) U hlen' a m b ha hm hb' w h
  have ih':AR y G rest n c M cap I S (A.length+B.length):=fun P' A' B' Q' h1 h2 h3=>ih P' A' B' Q' h1 h2 (by omega)
  exact vH y G rest n c V M cap I S Z P A B Q ih' J H (by omega) (by omega) U O D a m b ha hm hb w h
end
section
open Go.RowKit Go.BigFrame
attribute [local go_sem] ag ab ae af KW.cell
theorem vI (y:World) (G:Nat) (rest:List Value) (n c:Nat) (hn:n≤1000000) (kf:Nat) (cap:Array Value) (D:SR→SR→Int) (S:SR→Prop) (hC:tK y G kf cap D S) (l:List SR) (hS:∀ z∈l,S z) (hl:l.length=n) (w:World) (h:aG y G rest l w) :
  Calls Tryz.prog 169 #[FD (some ⟨G,0,none⟩) n c,FH FI (n:Int),.func (.func kf) #[] cap] w fun e w'=>e=FF (.tuple #[])∧aG y G rest (ee (bO D) l) w':=by
 have HS:=Fk h;have a4:=Fk hS;have HC:=Fk hC;have HL:=Fk hl;clear h hS hC hl;go_enter Tryz.func169,Tryz.ntmps169
 go_wp2_with fail
 go_loopw [7,8] (fun va vb wr=>∃ (X:List SR) (a b:Nat),va=FH FI (a:Int)∧vb=FH FI (b:Int)∧b=a+20∧Hid (X.length=a)∧a≤n∧Hid (X++nh (bO D) 20 (l.drop a)=nh (bO D) 20 l)∧Hid (aG y G rest (X++l.drop a) wr)) (fun _ vb _=>n+40-(intOf vb).toNat)
 case atStart=>exact ⟨[],0,20,rfl,rfl,rfl,Fk rfl,Fu _,Fk (by simp),Fk (by simpa using HS.out)⟩
 clear HS;obtain ⟨X,a,b,rfl,rfl,hb,HX,U,HE,Z⟩:=hrel;by_cases J:b≤n
 ·have a0:(b:Int)≤(n:Int):=by omega
  have bc:IntKind.i64.wrap ((b:Int)+20)=((b+20:Nat):Int):=by simp[IntKind.wrap,IntKind.bits,IntKind.signed];omega
  have ad:=HX.out;have I:=HL.out;have a5:Hid (Calls Tryz.prog 185 #[FD (some ⟨G,0,none⟩) n c,FH FI (a:Int),FH FI (b:Int),.func (.func kf) #[] cap] wr fun e w'=>e=FF (.tuple #[])∧aG y G rest (X++(ee (bO D) ((l.drop a).take 20)++l.drop b)) w'):=Fk (by
   have e:l.drop a=(l.drop a).take 20++l.drop b:=by
    have h1:=List.take_append_drop 20 (l.drop a);rw[List.drop_drop,←hb] at h1;exact h1.symm
   have N:=Z.out;rw[e] at N;exact ka y G rest n c hn kf cap D S HC.out X ((l.drop a).take 20) (l.drop b) (fun z V=>a4.out z (List.mem_of_mem_drop (List.mem_of_mem_take V))) (by rw[Fw,List.length_drop,List.length_drop];omega) a b ad.symm (by rw[Fw,List.length_drop];omega) wr N)
  have HN:Hid (∀ H,aG y G rest (X++(ee (bO D) ((l.drop a).take 20)++l.drop b)) H→∃ (X:List SR) (O b2:Nat),(FH FI (b:Int):Value)=FH FI (O:Int)∧(FH FI ((b+20:Nat):Int):Value)=FH FI (b2:Int)∧b2=O+20∧Hid (X.length=O)∧O≤n∧Hid (X++nh (bO D) 20 (l.drop O)=nh (bO D) 20 l)∧Hid (aG y G rest (X++l.drop O) H)):=Fk (fun H h=>by
   refine ⟨X++ee (bO D) ((l.drop a).take 20),b,b+20,rfl,rfl,rfl,Fk ?_,J,Fk ?_,Fk (by simpa using h)⟩
   ·rw[Fo,bG,Fw,List.length_drop]
    omega
   rw[←HE.out,jy (by decide) (l:=l.drop a) (by rw[List.length_drop];omega),List.drop_drop,←hb];simp)
  clear ad I hb U;go_wp2_with ((with_reducible refine a5.out.mono ?_);rintro e w5 ⟨rfl,h5⟩)
  go_roundw
  case rel=>exact HN.out _ h5
  case measure=>simp[intOf];omega
 have a0:¬(b:Int)≤(n:Int):=by omega
 have ad:=HX.out;have I:=HL.out;have a5:Hid (Calls Tryz.prog 185 #[FD (some ⟨G,0,none⟩) n c,FH FI (a:Int),FH FI (n:Int),.func (.func kf) #[] cap] wr fun e w'=>e=FF (.tuple #[])∧aG y G rest (nh (bO D) 20 l) w'):=Fk (by
  have N:=ka y G rest n c hn kf cap D S HC.out X (l.drop a) [] (fun z V=>a4.out z (List.mem_of_mem_drop V)) (by rw[List.length_drop];simp;omega) a n ad.symm (by rw[List.length_drop];omega) wr (by simpa using Z.out);rw[←HE.out,eK (l:=l.drop a) (by rw[List.length_drop];omega)];simpa using N)
 clear ad I hb U Z HE HX J;go_wp2_with ((with_reducible refine a5.out.mono ?_);rintro e w5 ⟨rfl,h5⟩;have H5:=Fk h5;clear h5)
 go_loopw [6,7,8,9] (fun v6 _ _ _ H=>∃ s:Nat,v6=FH FI (s:Int)∧20≤s∧s≤2000000∧Hid (aG y G rest (nh (bO D) s l) H)) (fun v6 _ _ _ _=>n-(intOf v6).toNat)
 case atStart=>exact ⟨20,rfl,Fm _,by omega,H5⟩
 clear H5;obtain ⟨s,rfl,av,a8,Z⟩:=hrel;obtain ⟨u,rfl⟩:∃ u:World,u=wr:=⟨_,rfl⟩
 by_cases a3:s<n
 ·have bb:(s:Int)<(n:Int):=by omega
  obtain ⟨d,hd⟩:∃ d,2*s=d:=⟨_,rfl⟩
  have bm:IntKind.i64.wrap (2*(s:Int))=(d:Int):=by simp[IntKind.wrap,IntKind.bits,IntKind.signed];omega
  have bj:IntKind.i64.wrap ((s:Int)*2)=(d:Int):=by simp[IntKind.wrap,IntKind.bits,IntKind.signed];omega
  have HD:=Fk hd;have ba:Hid (20≤s∧s<n):=Fk ⟨av,a3⟩;clear hd av a8 a3;go_wp2_with fail
  go_loopw [7,8] (fun va vb H=>∃ (X:List SR) (a b:Nat),va=FH FI (a:Int)∧vb=FH FI (b:Int)∧b=a+d∧Hid (X.length=a)∧a≤n∧Hid (X++nh (bO D) d (l.drop a)=nh (bO D) d l)∧Hid (aG y G rest (X++nh (bO D) s (l.drop a)) H)) (fun _ vb _=>n+2*d-(intOf vb).toNat)
  case atStart=>exact ⟨[],0,d,rfl,rfl,by omega,Fk rfl,Fu _,Fk (by simp),Fk (by simpa using Z.out)⟩
  clear Z;obtain ⟨X,a,b,rfl,rfl,hb,HX,U,HE,Z⟩:=hrel;obtain ⟨u2,rfl⟩:∃ u:World,u=wr:=⟨_,rfl⟩
  have hx:=HX.out;have I:=HL.out;have hd:=HD.out;have a7:=ba.out;obtain ⟨m1,a1⟩:∃ m1,a+s=m1:=⟨_,rfl⟩
  have bk:IntKind.i64.wrap ((a:Int)+(s:Int))=(m1:Int):=by simp[IntKind.wrap,IntKind.bits,IntKind.signed];omega
  have pK:(l.drop a).length=n-a:=by rw[List.length_drop];omega
  have M:∀ (q:List SR),(∀ z∈q,z∈l)→∀ z∈ee (bO D) q,S z:=fun q hq z V=>a4.out z (hq z ((gK q).mem_iff.1 V))
  by_cases J:b≤n
  ·have a0:(b:Int)≤(n:Int):=by omega
   have bc:IntKind.i64.wrap ((b:Int)+(d:Int))=((b+d:Nat):Int):=by simp[IntKind.wrap,IntKind.bits,IntKind.signed];omega
   obtain ⟨e1,e2⟩:=Cp HC.out.ord (bs:=s) (by omega) (l:=l.drop a) (by omega);rw[hd,List.drop_drop,List.drop_drop,←hb] at e1;rw[hd,List.drop_drop] at e2;have a6:Hid (Calls Tryz.prog 186 #[FD (some ⟨G,0,none⟩) n c,FH FI (a:Int),FH FI (m1:Int),FH FI (b:Int),.func (.func kf) #[] cap] u2 fun e w'=>e=FF (.tuple #[])∧aG y G rest (X++(ee (bO D) ((l.drop a).take d)++nh (bO D) s (l.drop b))) w'):=Fk (by
    have N:=Z.out;rw[e1] at N;rw[←e2];exact AS y G rest n c hn kf cap D S HC.out _ X _ _ _ (by rw[bG,Fw];omega) (by rw[bG,Fw,List.length_drop];omega) (Nat.lt_succ_self _) (M _ fun z V=>List.mem_of_mem_drop (List.mem_of_mem_take V)) (M _ fun z V=>List.mem_of_mem_drop (List.mem_of_mem_take V)) (kR HC.out.ord _) (kR HC.out.ord _) (by rw[bG,bG,Co,Fw,Fw,List.length_drop,List.length_drop,List.length_drop];omega) a m1 b hx.symm (by rw[bG,Fw];omega) (by rw[bG,bG,Fw,Fw,List.length_drop,List.length_drop];omega) u2 N)
   have HN:Hid (∀ H,aG y G rest (X++(ee (bO D) ((l.drop a).take d)++nh (bO D) s (l.drop b))) H→∃ (X:List SR) (O b2:Nat),(FH FI (b:Int):Value)=FH FI (O:Int)∧(FH FI ((b+d:Nat):Int):Value)=FH FI (b2:Int)∧b2=O+d∧Hid (X.length=O)∧O≤n∧Hid (X++nh (bO D) d (l.drop O)=nh (bO D) d l)∧Hid (aG y G rest (X++nh (bO D) s (l.drop O)) H)):=Fk (fun H h=>by
    refine ⟨X++ee (bO D) ((l.drop a).take d),b,b+d,rfl,rfl,rfl,Fk ?_,J,Fk ?_,Fk (by simpa using h)⟩
    ·rw[Fo,bG,Fw]
     omega
    rw[←HE.out,jy (by omega) (l:=l.drop a) (by omega),List.drop_drop,←hb];simp)
   have aA:Hid (n+2*d-(b+d)<n+2*d-b):=Fk (by omega);clear hx I hd a7 a1 pK M e1 e2 hb U J;go_wp2_with ((with_reducible refine a6.out.mono ?_);rintro e w5 ⟨rfl,h5⟩)
   go_roundw
   case rel=>exact HN.out _ h5
   case measure=>have:=aA.out;simp[intOf];omega
  have a0:¬(b:Int)≤(n:Int):=by omega
  have HN:Hid (∀ H,aG y G rest (nh (bO D) d l) H→∃ s2:Nat,(FH FI (d:Int):Value)=FH FI (s2:Int)∧20≤s2∧s2≤2000000∧Hid (aG y G rest (nh (bO D) s2 l) H)):=Fk (fun H h=>⟨d,rfl,by omega,by omega,Fk h⟩);have aA:Hid (n-d<n-s):=Fk (by omega);have hE:=HE.out;rw[eK (l:=l.drop a) (by omega)] at hE;by_cases a9:m1<n
  ·have be:(m1:Int)<(n:Int):=by omega
   obtain ⟨e1,e2⟩:=AU HC.out.ord (bs:=s) (by omega) (l:=l.drop a) (by omega) (by omega);have a6:Hid (Calls Tryz.prog 186 #[FD (some ⟨G,0,none⟩) n c,FH FI (a:Int),FH FI (m1:Int),FH FI (n:Int),.func (.func kf) #[] cap] u2 fun e w'=>e=FF (.tuple #[])∧aG y G rest (nh (bO D) d l) w'):=Fk (by
    have N:=Z.out;rw[e1] at N;have h3:=AS y G rest n c hn kf cap D S HC.out _ X (ee (bO D) ((l.drop a).take s)) (ee (bO D) ((l.drop a).drop s)) [] (by rw[bG,Fw];omega) (by rw[bG,List.length_drop];omega) (Nat.lt_succ_self _) (M _ fun z V=>List.mem_of_mem_drop (List.mem_of_mem_take V)) (M _ fun z V=>List.mem_of_mem_drop (List.mem_of_mem_drop V)) (kR HC.out.ord _) (kR HC.out.ord _) (by simp only[bG,Fw,List.length_drop,List.length_nil];omega) a m1 n hx.symm (by rw[bG,Fw];omega) (by simp only[bG,Fw,List.length_drop];omega) u2 (by simpa using N);rw[e2,List.append_nil,hE] at h3;exact h3)
   clear hx I hd a7 a1 pK M e1 e2 hb U J hE a9;go_wp2_with ((with_reducible refine a6.out.mono ?_);rintro e w5 ⟨rfl,h5⟩)
   go_roundw
   case rel=>exact HN.out _ h5
   case measure=>have:=aA.out;simp[intOf];omega
  have be:¬(m1:Int)<(n:Int):=by omega
  have HF:=HN.out u2 (by
   have N:=Z.out;rw[eK (l:=l.drop a) (by omega),hE] at N;exact N)
  have HF':=Fk HF;clear HF hx I hd a7 a1 pK M hb U J hE a9;go_wp2;go_roundw
  case rel=>exact HF'.out
  case measure=>have:=aA.out;simp[intOf];omega
 have bb:¬(s:Int)<(n:Int):=by omega
 have HF:Hid (aG y G rest (ee (bO D) l) u):=Fk (by
  have h:=Z.out;rw[eK (by have:=HL.out;omega)] at h;exact h)
 clear av a8 a3 Z;go_wp2;go_end0
 exact ⟨rfl,HF.out⟩
theorem oY (y:World) (G:Nat) (rest:List Value) (n c:Nat) (U:n≤1000000) (I:Nat) (cap:Array Value) (H:SR→SR→Int) (S:SR→Prop) (M:tK y G I cap H S) (l:List SR) (J:∀ z∈l,S z) (N:l.length=n) (w:World) (h:aG y G rest l w) :
  Calls Tryz.prog 141 #[FD (some ⟨G,0,none⟩) n c,.func (.func I) #[] cap] w fun e w'=>e=FF (.tuple #[])∧aG y G rest (ee (bO H) l) w':=by
 have D:=Fk (vI y G rest n c U I cap H S M l J N w h);clear h J M N;go_enter Tryz.func141,Tryz.ntmps141
 go_wp2_with ((with_reducible refine D.out.mono ?_);rintro e V ⟨rfl,O⟩)
 go_end0
 exact ⟨rfl,O⟩
end
end Go.Proofs.YtecpeogejjibaaaGreatDoor
