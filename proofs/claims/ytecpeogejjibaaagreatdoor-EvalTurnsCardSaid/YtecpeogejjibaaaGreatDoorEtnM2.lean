/- table.Right. slices.IndexFunc and ContainsFunc over values and over rows, with a predicate that is handed in by its contract. foremankeep.small. Two values compared. table: Less. A struct's cells as a result, and a slot beside it. pick. A row's wrap; what a laid list says of variables: for any seat. A world in which the table of first bytes is laid. -/
import Derived.Test.YtecpeogejjibaaaGreatDoorEtnM1
import Derived.Laws.ResultCell
import Derived.Laws.Rows
import Derived.Test.YtecpeogejjibaaaGreatDoorProg
import Derived.Test.YtecpeogejjibaaaGreatDoorRows
import Derived.Lib.LaidTab
import Derived.LaidLaws
import Derived.LaidSub
import Derived.LaidMore
import Derived.Shelf.Vars
import Derived.HandedShaped
set_option linter.unusedSimpArgs false
set_option linter.unusedVariables false
set_option maxRecDepth 100000
set_option maxHeartbeats 16000000
namespace Go.Proofs.YtecpeogejjibaaaGreatDoor
open Go.Lib renaming hid → Fk
open _root_.List renaming getElem?_eq_getElem → Fp, getElem_mem → Fs
open Go.World renaming block_lt_of_cell? → Fq
open _root_.Nat renaming zero_le → Fu
open aa renaming refl → Fz
open Go.Value renaming string → FC, slice → FD, int → FH
open Go.Ending renaming returned → FF
open Go.Obj renaming cells → FG
open Go.IntKind renaming i64 → FI
section
open Go.RowKit
attribute [local go_sem] ag ab ae af
theorem uy {cs:List Cl} {r:List Vl} {n:Nat} (h:n<r.length) (D:ke cs r n=false):ft cs r=false:=by
 unfold ft;have:(List.range r.length).all (ke cs r)=false:=by
  rw[List.all_eq_false];exact ⟨n,List.mem_range.2 h,by rw[D];decide⟩
 rw[this,Bool.and_false]
theorem q8 {t:Tb} {n:Nat} (h:n<t.rows.length) (D:ft t.cols t.rows[n]=false):ak t=false:=by
 unfold ak;have:t.rows.all (ft t.cols)=false:=by
  rw[List.all_eq_false];exact ⟨_,Fs h,by rw[D];decide⟩
 rw[this,Bool.and_false]
def jR (A:Option Addr) (n c:Nat) (B:Option Addr) (m d:Nat):Value:= .agg #[FD A n c,FD B m d]
theorem xh (t:Tb) (A B:Option Addr) (c d:Nat) (w:World) (hA:Rd w [] 2 A t.cols.length (ai t.cols)) (hc:t.cols.length≤c) (hB:cJ w [] B t.rows) (hn:∀ x∈t.cols,x.name.length≤1000000000) (hl:t.cols.length≤4294967296) (hm:t.rows.length≤4294967296) (hr:∀ r∈t.rows,r.length≤4294967296) :
  Calls Tryz.prog 13 #[jR A t.cols.length c B t.rows.length d] w fun e w'=>e=FF (.bool (ak t))∧aa [] w w':=by
 have H:=fun W (q:aa [] w W)=>gj t.cols A c W (hA.keep q) hc hn hl
 have HA:=Fk hA;have HB:=Fk hB;have b4:=Fk hr;clear hA hB hn hr;show Calls _ _ #[.agg #[FD A t.cols.length c,FD B t.rows.length d]] w _
 cases h1:bV t.cols with
 | false =>
  rw[h1] at H;have HC:=Fk H;have HF:Hid (ak t=false):=Fk (by unfold ak;rw[h1];rfl);clear H h1;go_enter Tryz.func13,Tryz.ntmps13
  go_wp2_with (go_at_call 19;refine (HC.out _ ((Fz _ _).alloc _)).mono ?_;rintro e w5 ⟨rfl,J⟩)
  go_ret;exact ⟨by rw[HF.out];rfl,((Fz _ _).alloc _).trans J⟩
 | true =>
  rw[h1] at H;have HC:=Fk H;have b1:=Fk h1;clear H h1;by_cases h2:t.rows.length≤60
  ·have h2':¬((60:Int)<(t.rows.length:Int)):=by omega
   go_enter Tryz.func13,Tryz.ntmps13
   go_wp2_with (go_at_call 19;refine (HC.out _ ((Fz _ _).alloc _)).mono ?_;rintro e w5 ⟨rfl,J⟩;have q0:=J.cell_of (p:=⟨w.heap.size,0,none⟩) (v:=FD A t.cols.length c) (by simp) (by simp);have q1:=J.cell_of (p:=⟨w.heap.size,1,none⟩) (v:=FD B t.rows.length d) (by simp) (by simp))
   obtain ⟨bt,a3⟩:∃ bt,w.heap.size=bt:=⟨_,rfl⟩
   have Z:=Fk (((Fz [] w).alloc (FG #[FD A t.cols.length c,FD B t.rows.length d] 54)).trans J);rw[a3] at q0 q1 ⊢;have Q0:=Fk q0;have Q1:=Fk q1;clear J a3 q0 q1;go_loopw [20] (fun i wr=>∃ n:Nat,n≤t.rows.length∧i=FH FI n∧Hid (∀ j (hj:j<n) (hl:j<t.rows.length),ft t.cols t.rows[j]=true)∧aa [] w5 wr) (fun i _=>t.rows.length-(intOf i).toNat)
   case atStart=>exact ⟨0,Fu _,rfl,fun j hj=>absurd hj (by omega),Fz _ _⟩
   obtain ⟨n,hn,rfl,a4,hk⟩:=hrel;by_cases ba:n<t.rows.length
   ·obtain ⟨us,bX,bo,bb⟩:=(HB.out.keep Z.out).keep hk
    obtain ⟨b,o,rfl,_,hb,bc⟩:=bo.open' (by omega) (by omega);have d1:=bc n _ (Fp (by omega));obtain ⟨Ar,cr,bk,b7,bq⟩:=bb n (by omega) ba;rw[bk] at d1;have q0:=hk.cell_of Q0.out (by simp);have q1:=hk.cell_of Q1.out (by simp);have b5:=b4.out _ (Fs ba);have aA:ft t.cols t.rows[n]=false→Hid (ak t=false):=fun h=>Fk (q8 ba h)
    have a2:Hid (∀ r,t.rows[n]=r→ft t.cols r=true→∀ j (hj:j<n+1) (hl:j<t.rows.length),ft t.cols t.rows[j]=true):=fun r e hr j hj hl=>by
     by_cases h:j<n
     ·exact a4.out j h hl
     obtain rfl:j=n:=by omega
     rw[e];exact hr
    generalize hr:t.rows[n]=r at *;have a0:=Fk aA;have a9:=a2.out r rfl;have a9:=Fk a9;clear a4 bc bo bb bk bX aA a2 hr;by_cases ad:r.length=t.cols.length
    ·have bZ:((r.length:Int) != (t.cols.length:Int))=false:=by simp[ad]
     have bz:=Fk ad;obtain ⟨wo,br⟩:∃ wo:World,wo=wr:=⟨_,rfl⟩
     subst br;have b9:r.length≤t.cols.length:=by omega
     clear ad;go_wp2;go_loopw [32] (fun i wr=>∃ m:Nat,m≤r.length∧i=FH FI m∧Hid (∀ j,j<m→ke t.cols r j=true)∧aa [] wo wr) (fun i _=>r.length-(intOf i).toNat)
     case atStart=>exact ⟨0,Fu _,rfl,fun j hj=>absurd hj (by omega),Fz _ _⟩
     obtain ⟨m,hm,rfl,a5,O⟩:=hrel;by_cases N:m<r.length
     ·obtain ⟨b2,o2,rfl,_,b6,V⟩:=(bq.keep O).open' (by omega) (by omega)
      have e1:=V (m*3) _ (ay r m N).1;have e2:=V (m*3+1) _ (ay r m N).2.1;have e3:=V (m*3+2) _ (ay r m N).2.2;rw[←Nat.add_assoc] at e2 e3;obtain ⟨b3,o3,bv,_,b8,a1⟩:=(((HA.out.keep Z.out).keep hk).keep O).open' (by omega) (by omega);have f1:=a1 (m*2+1) _ (aN t.cols m (by omega)).2;rw[←Nat.add_assoc] at f1;have I:ke t.cols r m=(decide (r[m].kind=(t.cols[m]'(by omega)).kind)&&eO r[m]):=by unfold ke;rw[Fp N,Fp (by omega)]
      have q0:=O.cell_of q0 (by simp);generalize r[m]=x at *;generalize (t.cols[m]'(by omega)).kind=ck at *;obtain ⟨M,xn,xs⟩:=x;subst bv;simp only at e1 e2 e3 I;have be:Hid (ke t.cols r m=false→Hid (ak t=false)):=Fk (fun h=>a0.out (uy N h));have a7:=Fk O;have ca:m<t.cols.length:=by omega
      clear V a1 O;have a3:bt<wr.heap.size:=Fq wr _ q0;have U:=cp ⟨M,xn,xs⟩;have a8:=fun o=>(Fz [] wr).alloc o
      have G:Hid ((wr.alloc (FG #[FH FI M,FH FI xn,FC (bs xs)] 46)).drew.cell? ⟨wr.heap.size,0,none⟩=some (FH FI M)∧(wr.alloc (FG #[FH FI M,FH FI xn,FC (bs xs)] 46)).drew.cell? ⟨wr.heap.size,1,none⟩=some (FH FI xn)∧(wr.alloc (FG #[FH FI M,FH FI xn,FC (bs xs)] 46)).drew.cell? ⟨wr.heap.size,2,none⟩=some (FC (bs xs))∧(wr.alloc (FG #[FH FI M,FH FI xn,FC (bs xs)] 46)).drew.cell? ⟨bt,0,none⟩=some (FD (some ⟨b3,o3,none⟩) t.cols.length c)∧(wr.alloc (FG #[FH FI M,FH FI xn,FC (bs xs)] 46)).drew.cell? ⟨b3,o3+m*2+1,none⟩=some (FH FI ck)):=Fk ⟨by simp,by simp,by simp,(a8 _).cell_of (p:=⟨bt,0,none⟩) q0 (by simp),(a8 _).cell_of (p:=⟨b3,o3+m*2+1,none⟩) f1 (by simp)⟩;clear a8;by_cases av:M=ck
      ·subst av
       have hz:(M != M)=false:=by simp
       have hokm':ke t.cols r m=eO ⟨M,xn,xs⟩:=by rw[I,decide_eq_true rfl,Bool.true_and]
       cases hb:eO ⟨M,xn,xs⟩ with
       | true =>
        rw[hb] at U hokm';have a6:=Fk U;have hok':Hid (∀ j,j<m+1→ke t.cols r j=true):=fun j hj=>by
         by_cases h:j<m
         ·exact a5.out j h
         obtain rfl:j=m:=by omega
         exact hokm'
        clear U I hokm' hb;go_wp2_with fail
        go_region_held3 (fun w'=>w'.cell? ⟨wr.heap.size,0,none⟩=some (FH FI M)∧w'.cell? ⟨wr.heap.size,1,none⟩=some (FH FI xn)∧w'.cell? ⟨wr.heap.size,2,none⟩=some (FC (bs xs))∧w'.cell? ⟨bt,0,none⟩=some (FD (some ⟨b3,o3,none⟩) t.cols.length c)∧w'.cell? ⟨b3,o3+m*2+1,none⟩=some (FH FI M)) (first|exact G.out|exact ⟨D.cell_of G.out.1 (by simp),D.cell_of G.out.2.1 (by simp),D.cell_of G.out.2.2.1 (by simp),D.cell_of G.out.2.2.2.1 (by simp),D.cell_of G.out.2.2.2.2 (by simp)⟩|go_keep) (first|(go_at_call 28;refine (a6.out _).mono ?_;rintro e w6 ⟨rfl,D⟩))
        all_goals go_wp2
        all_goals have K6:=Fk ((a7.out.alloc _).drew.trans D)
        all_goals clear D
        all_goals go_roundw
        case rel=>exact ⟨m+1,by omega,by go_num,hok',K6.out⟩
        case measure=>simp[intOf];omega
       | false =>
        rw[hb] at U hokm';have a6:=Fk U;have HF:=be.out hokm';clear U I hokm' hb;go_wp2_with fail
        go_region_held3 (fun w'=>w'.cell? ⟨wr.heap.size,0,none⟩=some (FH FI M)∧w'.cell? ⟨wr.heap.size,1,none⟩=some (FH FI xn)∧w'.cell? ⟨wr.heap.size,2,none⟩=some (FC (bs xs))∧w'.cell? ⟨bt,0,none⟩=some (FD (some ⟨b3,o3,none⟩) t.cols.length c)∧w'.cell? ⟨b3,o3+m*2+1,none⟩=some (FH FI M)) (first|exact G.out|exact ⟨D.cell_of G.out.1 (by simp),D.cell_of G.out.2.1 (by simp),D.cell_of G.out.2.2.1 (by simp),D.cell_of G.out.2.2.2.1 (by simp),D.cell_of G.out.2.2.2.2 (by simp)⟩|go_keep) (first|(go_at_call 28;refine (a6.out _).mono ?_;rintro e w6 ⟨rfl,D⟩))
        all_goals go_wp2
        all_goals go_ret
        all_goals exact ⟨by rw[HF.out];rfl,(Z.out.trans hk).trans ((a7.out.alloc _).drew.trans D)⟩
      have hz:(M != ck)=true:=by rw[bne_iff_ne];exact av
      have HF:=be.out (by rw[I,decide_eq_false av,Bool.false_and]);clear U I av;go_wp2_with fail
      go_quiet (fail)
      all_goals go_wp2
      all_goals go_ret
      all_goals exact ⟨by rw[HF.out];rfl,(Z.out.trans hk).trans ((a7.out.alloc _).drewN _)⟩
     have bj:=Fk (a9.out (by
      unfold ft;rw[decide_eq_true bz.out,Bool.true_and,List.all_eq_true];intro j hj;exact a5.out j (by have:=List.mem_range.1 hj;omega)))
     have b0:=Fk (hk.trans O);clear O a5;go_wp2;go_roundw
     case rel=>exact ⟨n+1,by omega,by go_num,bj,b0.out⟩
     case measure=>simp[intOf];omega
    have bZ:((r.length:Int) != (t.cols.length:Int))=true:=by rw[bne_iff_ne];omega
    have HF:=a0.out (by unfold ft;rw[decide_eq_false ad,Bool.false_and]);clear ad;go_wp2;go_ret;exact ⟨by rw[HF.out];rfl,Z.out.trans hk⟩
   have bm:Hid (ak t=true):=Fk (by
    unfold ak;rw[b1.out,decide_eq_true h2,Bool.and_self,Bool.true_and,List.all_eq_true];intro r hr;obtain ⟨j,hj,rfl⟩:=List.getElem_of_mem hr;exact a4.out j (by omega) hj)
   go_wp2;go_ret;exact ⟨by rw[bm.out];rfl,Z.out.trans hk⟩
  have h2':(60:Int)<(t.rows.length:Int):=by omega
  have HF:Hid (ak t=false):=Fk (by unfold ak;rw[decide_eq_false h2,Bool.and_false,Bool.false_and]);clear h2;go_enter Tryz.func13,Tryz.ntmps13
  go_wp2_with (go_at_call 19;refine (HC.out _ ((Fz _ _).alloc _)).mono ?_;rintro e w5 ⟨rfl,J⟩;have q1:=J.cell_of (p:=⟨w.heap.size,1,none⟩) (v:=FD B t.rows.length d) (by simp) (by simp))
  go_ret;exact ⟨by rw[HF.out];rfl,((Fz _ _).alloc _).trans J⟩
def CZ (k:Nat) (cap:Array Value) (p:Vl→Bool) (l:List Vl) (w:World):Prop :=
 ∀ c∈l,∀ W,aa [] w W→Calls Tryz.prog k (#[fV c]++cap) W fun e W'=>e=FF (.bool (p c))∧aa [] W W'
def C4 (k:Nat) (cap:Array Value) (p:List Vl→Bool) (l:List (List Vl)) (w:World):Prop :=
 ∀ r∈l,∀ A c W,aa [] w W→r.length≤c→Rd W [] 3 A r.length (al r)→Calls Tryz.prog k (#[FD A r.length c]++cap) W fun e W'=>e=FF (.bool (p r))∧aa [] W W'
theorem nx (k:Nat) (cap:Array Value) (he:∀ args w,(callFunc k args).run Tryz.prog w= .ok (.enter k args) w) (p:Vl→Bool) (l:List Vl) (A:Option Addr) (c:Nat) (w:World) (hR:Rd w [] 3 A l.length (al l)) (V:l.length≤4294967296) (hf:CZ k cap p l w) :
  Calls Tryz.prog 73 #[FD A l.length c,.func (.func k) #[] cap] w fun e w'=>e=FF (FH FI (bh p l))∧aa [] w w':=by
 have HR:=Fk hR;have HF:=Fk hf;clear hR hf;go_enter Tryz.func73,Tryz.ntmps73
 go_wp2;go_loopw [8] (fun i wr=>∃ n:Nat,n≤l.length∧i=FH FI n∧Hid (∀ j (I:j<n) (V:j<l.length),p l[j]=false)∧aa [] w wr) (fun i _=>l.length-(intOf i).toNat)
 case atStart=>exact ⟨0,Fu _,rfl,fun j I=>absurd I (by omega),Fz _ _⟩
 obtain ⟨n,hn,rfl,J,O⟩:=hrel;by_cases H:n<l.length
 ·obtain ⟨b,o,rfl,_,hb,U⟩:=(HR.out.keep O).open' (by omega) (by omega)
  have d1:=U (n*3) _ (ay l n H).1;have d2:=U (n*3+1) _ (ay l n H).2.1;have d3:=U (n*3+2) _ (ay l n H).2.2;rw[←Nat.add_assoc] at d2 d3;have HH:=HF.out l[n] (Fs H) wr O;generalize hx:l[n]=x at *;have Z:=Fk hx;have HH':=Fk HH;clear HH U hx
  cases N:p x with
  | true =>
   have D:bh p l=(n:Int):=dV H (fun j I=>J j I (by omega)) ((congrArg p Z.out).trans N);rw[N] at HH';have HP:=Fk D;clear D N;go_wp2_with fail
   refine HH'.out.mono ?_;rintro e W2 ⟨rfl,M⟩;go_wp2;go_ret;exact ⟨by rw[HP.out];rfl,O.trans M⟩
  | false =>
   have hno':Hid (∀ j (I:j<n+1) (V:j<l.length),p l[j]=false):=fun j I V=>by
    by_cases h:j<n
    ·exact J j h V
    obtain rfl:j=n:=by omega
    exact (congrArg p Z.out).trans N
   rw[N] at HH';clear N;go_wp2_with fail
   refine HH'.out.mono ?_;rintro e W2 ⟨rfl,M⟩;go_wp2;go_roundw
   case rel=>exact ⟨n+1,by omega,by go_num,hno',O.trans M⟩
   case measure=>simp[intOf];omega
 have D:Hid (bh p l= -1):=dA fun j I=>J j (by omega) I
 go_wp2;go_ret;exact ⟨by rw[D.out];rfl,O⟩
theorem kL (k:Nat) (cap:Array Value) (H:∀ args w,(callFunc k args).run Tryz.prog w= .ok (.enter k args) w) (p:Vl→Bool) (l:List Vl) (A:Option Addr) (c:Nat) (w:World) (D:Rd w [] 3 A l.length (al l)) (J:l.length≤4294967296) (I:CZ k cap p l w) :
  Calls Tryz.prog 39 #[FD A l.length c,.func (.func k) #[] cap] w fun e w'=>e=FF (.bool (l.any p))∧aa [] w w':=by
 have M:=Fk (nx k cap H p l A c w D J I);clear D I H;rw[←eD];go_enter Tryz.func39,Tryz.ntmps39
 go_wp2_with (go_at_call 73;refine M.out.mono ?_;rintro e N ⟨rfl,h⟩)
 go_ret;exact ⟨rfl,h⟩
theorem ny (k:Nat) (cap:Array Value) (he:∀ args w,(callFunc k args).run Tryz.prog w= .ok (.enter k args) w) (p:(List Vl)→Bool) (l:List (List Vl)) (A:Option Addr) (c:Nat) (w:World) (hR:cJ w [] A l) (hl:l.length≤4294967296) (hf:C4 k cap p l w) :
  Calls Tryz.prog 72 #[FD A l.length c,.func (.func k) #[] cap] w fun e w'=>e=FF (FH FI (bh p l))∧aa [] w w':=by
 have HR:=Fk hR;have HF:=Fk hf;clear hR hf;go_enter Tryz.func72,Tryz.ntmps72
 go_wp2;go_loopw [8] (fun i wr=>∃ n:Nat,n≤l.length∧i=FH FI n∧Hid (∀ j (H:j<n) (hl:j<l.length),p l[j]=false)∧aa [] w wr) (fun i _=>l.length-(intOf i).toNat)
 case atStart=>exact ⟨0,Fu _,rfl,fun j H=>absurd H (by omega),Fz _ _⟩
 obtain ⟨n,hn,rfl,J,O⟩:=hrel;by_cases I:n<l.length
 ·obtain ⟨us,aA,ad,Z⟩:=HR.out.keep O
  obtain ⟨b,o,rfl,_,hb,hc⟩:=ad.open' (by omega) (by omega);have d1:=hc n _ (Fp (by omega));obtain ⟨Ar,cr,U,V,av⟩:=Z n (by omega) I;rw[U] at d1;have HH:=HF.out l[n] (Fs I) Ar cr wr O V av;clear U V av ad Z;generalize hx:l[n]=x at *;have HX:=Fk hx;have HH':=Fk HH;clear HH hc hx
  cases N:p x with
  | true =>
   have D:bh p l=(n:Int):=dV I (fun j H=>J j H (by omega)) ((congrArg p HX.out).trans N);rw[N] at HH';have HP:=Fk D;clear D N;go_wp2_with fail
   refine HH'.out.mono ?_;rintro e W2 ⟨rfl,M⟩;go_wp2;go_ret;exact ⟨by rw[HP.out];rfl,O.trans M⟩
  | false =>
   have hno':Hid (∀ j (H:j<n+1) (hl:j<l.length),p l[j]=false):=fun j H hl=>by
    by_cases h:j<n
    ·exact J j h hl
    obtain rfl:j=n:=by omega
    exact (congrArg p HX.out).trans N
   rw[N] at HH';clear N;go_wp2_with fail
   refine HH'.out.mono ?_;rintro e W2 ⟨rfl,M⟩;go_wp2;go_roundw
   case rel=>exact ⟨n+1,by omega,by go_num,hno',O.trans M⟩
   case measure=>simp[intOf];omega
 have D:Hid (bh p l= -1):=dA fun j H=>J j (by omega) H
 go_wp2;go_ret;exact ⟨by rw[D.out];rfl,O⟩
theorem kM (k:Nat) (cap:Array Value) (H:∀ args w,(callFunc k args).run Tryz.prog w= .ok (.enter k args) w) (p:(List Vl)→Bool) (l:List (List Vl)) (A:Option Addr) (c:Nat) (w:World) (D:cJ w [] A l) (J:l.length≤4294967296) (I:C4 k cap p l w) :
  Calls Tryz.prog 37 #[FD A l.length c,.func (.func k) #[] cap] w fun e w'=>e=FF (.bool (l.any p))∧aa [] w w':=by
 have M:=Fk (ny k cap H p l A c w D J I);clear D I H;rw[←eD];go_enter Tryz.func37,Tryz.ntmps37
 go_wp2_with (go_at_call 72;refine M.out.mono ?_;rintro e N ⟨rfl,h⟩)
 go_ret;exact ⟨rfl,h⟩
def eh (t:Tb):Bool:=!(decide (8<t.cols.length)||decide (65<t.rows.length)||t.cols.any (fun c=>decide (40<c.name.length))) && !(t.rows.any fun r=>decide (8<r.length)||r.any fun v=>decide (40<v.word.length))
theorem xi (c:Cl) (w:World):Calls Tryz.prog 36 #[BM c] w fun e w'=>e=FF (.bool (decide (40<c.name.length)))∧aa [] w w':=by
 obtain ⟨s,k⟩:=c;show Calls _ _ #[.agg #[FC (bs s),FH FI k]] w _;go_enter Tryz.func36,Tryz.ntmps36
 go_wp2;go_ret;exact ⟨congrArg (fun b=>Ending.returned (.bool b)) (decide_eq_decide.2 (show ((40:Int)<(s.length:Int))↔40<s.length by omega)),(Fz _ _).alloc _⟩
theorem xm (v:Vl) (w:World):Calls Tryz.prog 40 #[fV v] w fun e w'=>e=FF (.bool (decide (40<v.word.length)))∧aa [] w w':=by
 obtain ⟨k,n,s⟩:=v;show Calls _ _ #[.agg #[FH FI k,FH FI n,FC (bs s)]] w _;go_enter Tryz.func40,Tryz.ntmps40
 go_wp2;go_ret;exact ⟨congrArg (fun b=>Ending.returned (.bool b)) (decide_eq_decide.2 (show ((40:Int)<(s.length:Int))↔40<s.length by omega)),(Fz _ _).alloc _⟩
theorem xo (r:List Vl) (A:Option Addr) (c:Nat) (w:World) (N:r.length≤c) (D:Rd w [] 3 A r.length (al r)) :
  Calls Tryz.prog 38 #[FD A r.length c] w fun e w'=>e=FF (.bool (decide (8<r.length)||r.any fun v=>decide (40<v.word.length)))∧aa [] w w':=by
 by_cases h:8<r.length
 ·have J:(8:Int)<(r.length:Int):=by omega
  have M:Hid ((decide (8<r.length)||r.any fun v=>decide (40<v.word.length))=true):=Fk (by rw[decide_eq_true h];rfl);rw[M.out];clear D h;go_enter Tryz.func38,Tryz.ntmps38
  go_wp2;go_ret;exact ⟨rfl,Fz _ _⟩
 have J:¬(8:Int)<(r.length:Int):=by omega
 have I:=Fk (kL 40 #[] (enters_of Tryz.func40 (by kernel_rfl) rfl) (fun v=>decide (40<v.word.length)) r A c w D (by omega) (fun v _ W _=>xm v W));rw[decide_eq_false h,Bool.false_or];generalize (r.any fun v=>decide (40<v.word.length))=R at *;clear D h;go_enter Tryz.func38,Tryz.ntmps38
 go_wp2_with (go_at_call 39;refine I.out.mono ?_;rintro e O ⟨rfl,H⟩)
 go_ret;exact ⟨rfl,H⟩
theorem xp (t:Tb) (A B:Option Addr) (c d:Nat) (w:World) (M:Rd w [] 2 A t.cols.length (ai t.cols)) (J:cJ w [] B t.rows) :
  Calls Tryz.prog 16 #[jR A t.cols.length c B t.rows.length d] w fun e w'=>e=FF (.bool (eh t))∧aa [] w w':=by
 show Calls _ _ #[.agg #[FD A t.cols.length c,FD B t.rows.length d]] w _;by_cases I:8<t.cols.length
 ·have V:(8:Int)<(t.cols.length:Int):=by omega
  have H:Hid (eh t=false):=Fk (by unfold eh;rw[decide_eq_true I];rfl);clear M J I;go_enter Tryz.func16,Tryz.ntmps16
  go_wp2;go_ret;exact ⟨by rw[H.out];rfl,(Fz _ _).alloc _⟩
 have V:¬(8:Int)<(t.cols.length:Int):=by omega
 by_cases D:65<t.rows.length
 ·have U:(65:Int)<(t.rows.length:Int):=by omega
  have H:Hid (eh t=false):=Fk (by unfold eh;rw[decide_eq_true D,Bool.or_true];rfl);clear M J I D;go_enter Tryz.func16,Tryz.ntmps16
  go_wp2;go_ret;exact ⟨by rw[H.out];rfl,(Fz _ _).alloc _⟩
 have U:¬(65:Int)<(t.rows.length:Int):=by omega
 have O:=Fk (fun W (q:aa [] w W)=>fZ 36 #[] (enters_of Tryz.func36 (by kernel_rfl) rfl) (fun c=>decide (40<c.name.length)) t.cols A c W (M.keep q) (by omega) (fun v _ W _=>xi v W));have HD:=Fk (fun W (q:aa [] w W)=>kM 38 #[] (enters_of Tryz.func38 (by kernel_rfl) rfl) (fun r=>decide (8<r.length)||r.any fun v=>decide (40<v.word.length)) t.rows B d W (J.keep q) (by omega) (fun r _ A c W _ Z hr=>xo r A c W Z hr));have H:Hid (eh t=(!(t.cols.any (fun c=>decide (40<c.name.length))) && !(t.rows.any fun r=>decide (8<r.length)||r.any fun v=>decide (40<v.word.length)))):=Fk (by unfold eh;rw[decide_eq_false D,decide_eq_false I];rfl);rw[H.out];generalize (t.rows.any fun r=>decide (8<r.length)||r.any fun v=>decide (40<v.word.length))=R at *;generalize (t.cols.any (fun c=>decide (40<c.name.length)))=Q at *;clear M J I D
 cases Q with
 | true =>
  go_enter Tryz.func16,Tryz.ntmps16
  go_wp2_with (go_at_call 35;refine (O.out _ ((Fz _ _).alloc _)).mono ?_;rintro e W2 ⟨rfl,h⟩)
  go_ret;exact ⟨rfl,((Fz _ _).alloc _).trans h⟩
 | false =>
  go_enter Tryz.func16,Tryz.ntmps16
  go_wp2_with (go_at_call 35;refine (O.out _ ((Fz _ _).alloc _)).mono ?_;rintro e W2 ⟨rfl,h⟩;have q1:=h.cell_of (p:=⟨w.heap.size,1,none⟩) (v:=FD B t.rows.length d) (by simp) (by simp))
  refine (HD.out _ (((Fz _ _).alloc _).trans h)).mono ?_;rintro e W3 ⟨rfl,N⟩;go_wp2;go_ret;exact ⟨rfl,(((Fz _ _).alloc _).trans h).trans N⟩
end
section
open Go.RowKit Go.BigFrame
attribute [local go_sem] ag ab ae af
theorem EG (k n:Int) (s:Bs) (D h:Int) (H:Bs) (W:World):(binOp .eql 46 (.agg #[FH FI k,FH FI n,FC (bs s)]) (.agg #[FH FI D,FH FI h,FC (bs H)])).run Tryz.prog W= .ok (.bool (decide ((⟨k,n,s⟩:Vl)=⟨D,h,H⟩))) W:=by
 have hd:decide ((⟨k,n,s⟩:Vl)=⟨D,h,H⟩)=(decide (k=D)&&decide (n=h)&&decide (s=H)):=by
  rw[Bool.eq_iff_iff];simp[and_assoc]
 rw[hd];simp[go_sem];by_cases M:k=D<;>by_cases J:n=h<;>by_cases I:s=H<;>simp[M,J,I,go_sem]
end
section
open Go.RowKit
attribute [local go_sem] ag ab ae af
theorem lC (a b:Vl) (w:World) :
  Calls Tryz.prog 138 #[fV a,fV b] w fun e w'=>e=FF (.bool (cH a b))∧aa [] w w':=by
 obtain ⟨k,n,s⟩:=a;obtain ⟨I,M,U⟩:=b;show Calls _ _ #[.agg #[FH FI k,FH FI n,FC (bs s)],.agg #[FH FI I,FH FI M,FC (bs U)]] w _;obtain ⟨R,h⟩:∃ R,cH ⟨k,n,s⟩ ⟨I,M,U⟩=R:=⟨_,rfl⟩
 rw[h];by_cases J:k=I
 ·subst J
  have N:(k != k)=false:=by simp
  by_cases D:k=1
  ·have O:(k==1)=true:=by rw[D];rfl
   have H:Hid (R=decide (n<M)):=Fk (h.symm.trans ((if_pos rfl).trans (if_pos D)));clear D h;go_enter Tryz.func138,Tryz.ntmps138
   go_wp2;go_ret;exact ⟨by rw[H.out];rfl,((Fz _ _).alloc _).alloc _⟩
  have O:(k==1)=false:=by rw[beq_eq_false_iff_ne];exact D
  have H:Hid (R=Op.bytesLess s U):=Fk (h.symm.trans ((if_pos rfl).trans (if_neg D)));clear D h;go_enter Tryz.func138,Tryz.ntmps138
  go_wp2;go_ret;exact ⟨by rw[H.out];rfl,((Fz _ _).alloc _).alloc _⟩
 have N:(k != I)=true:=by rw[bne_iff_ne];exact J
 have H:Hid (R=decide (k<I)):=Fk (h.symm.trans (if_neg J));clear J h;go_enter Tryz.func138,Tryz.ntmps138
 go_wp2;go_ret;exact ⟨by rw[H.out];rfl,((Fz _ _).alloc _).alloc _⟩
end
section
open Go.RowKit Go.BigFrame
attribute [local go_sem] ag ab ae af
theorem cV {P:Program} {I:Func} {p u:Tmp} {H:TypeId} (h:I.results= #[.cell p H,.tmp u]) (D:Array Value) (w:World) (g:Nat) (t:TypeId) (cs:Array Value) (J:Nat×Nat) (d:TypeDesc)
  (U:D.getD p undef= .pointer (some ⟨g,0,none⟩)) (N:w.heap[g]? = some (.cells cs t J))
  (O:P.underlying H=some d) (hd:(match d with | .struct _ | .array _ _=>true|_=>false)=true) (M:(P.info? H).map (·.size)=some cs.size) :
  (results I D).run P w= .ok (.tuple #[.agg cs,D.getD u undef]) w:=by
 rw[results_cell_tmp h,U];simp[asAddr,run_loadVar_row w g t H cs J d N O hd M,Result.andThen]
end
section
open Go.RowKit
def uk (a:Int) (n:Nat):Nat:=(a.emod 18446744073709551616).toNat % n
theorem ul (a:Int) {n:Nat} (h:0<n):uk a n<n:=Nat.mod_lt _ h
theorem BE (a:Int) (n:Nat) (H:n≤4294967296) (h:0<n):wrap64 ((IntKind.u64.wrap a).tmod (n:Int))=(uk a n:Int):=by
 have e:IntKind.u64.wrap a=((a.emod 18446744073709551616).toNat:Int):=by
  rw[IntKind.wrap_u64];have:=Int.emod_nonneg a (show (18446744073709551616:Int)≠0 by decide);exact (Int.toNat_of_nonneg this).symm
 have D:=ul a h;rw[e,Int.tmod_eq_emod_of_nonneg (Int.natCast_nonneg _)];show wrap64 ((uk a n:Nat):Int)=_;exact IntWalk.wrap64_in _ ⟨by omega,by omega⟩
theorem BF (a:Int) (n:Nat) (h:0<n) (D:n≤4294967296) (w:World) :
  Calls Tryz.prog 10 #[FH FI a,FH FI (n:Int)] w fun e w'=>e=FF (FH FI (uk a n))∧w=w':=by
 have I:¬(n:Int)=0:=by omega
 have H:=Fk (BE a n D h);go_enter Tryz.func10,Tryz.ntmps10
 go_wp2;go_ret;exact ⟨by rw[←H.out];rfl,rfl⟩
end
section
open Go.RowKit Go.ChangeShapes Go.WideShapes
theorem pJ {H:Type} {enc:TypeId×Value→H} {a:Assume} {C:Checked} {os:Os} {f:FuncId} {fn:Func} {s:ChangeSpec} {U:List PathCond} {h V J O:Bool} {X:World→Array Value→Prop}
  (hX:∀ (w w':World) (args:Array Value),w.heap=w'.heap→X w args→X w' args)
  (a2:ownKnob C.prog.godebug=none) (Z:os.Started) (ad:C.prog.inits.idxOf? f=none) (a5:C.prog.funcs[f]? = some fn)
  (N:∃ (w:World) (D:Tape) (i:Input),w.os=os∧(w.forCall D i).Shaped C.prog∧i.vars=[]∧Input.okWide C.prog (w.forCall D i) .any w.heap.size f i ∧
   ((s.pre enc C.prog fn U h (w.forCall D i).memory i.args∧X (w.forCall D i).memory i.args)∧sizedMet enc C.prog fn (OpenSpec.ofChange s) h (w.forCall D i).memory i.args)∧a.holds C.prog (lone (Frame.enter C.prog f i.args .normal) [] (w.forCall D i)))
  (M:∀ (W:World) (base:Nat) (args:Array Value) (ds gs:List (DataW H)) (I:List MemPlace),
   (∀ (j:Nat) t v,fn.params[j]? = some t→args[j]? = some v→Value.okWide C.prog W .any base t v) →
   DataW.Whole enc C.prog fn.params.toList s.vars h W args.toList ds gs I→X W args→W.ShapedOpen C.prog →
   Calls C.prog f args W fun e W'=>∃ v,e= .returned v∧s.post enc C.prog fn h V J O W args v W') :
  ReturnsInHanded a C os f .any (fun w args=>(s.pre enc C.prog fn U h w args∧X w args)∧sizedMet enc C.prog fn (OpenSpec.ofChange s) h w args) (s.post enc C.prog fn h V J O):=by
 refine returnsInHanded_of_calls a2 Z ad N ?_;intro w D i _ a1 _ a3 a0 _;obtain ⟨_,_,_,a4,aA,_,_,_,_,av⟩:=a3;obtain rfl:a4=fn:=Option.some.inj (aA.symm.trans a5);obtain ⟨⟨⟨ds,gs,I,hw,_⟩,hx⟩,_⟩:=a0;have hw':=DataW.Whole.of_heap (w':=w.forCall D i) (by rfl) hw;refine (M (w.forCall D i) w.heap.size i.args ds gs I av hw' (hX _ _ _ (by rfl) hx) a1).mono fun e W' ⟨v,he,hp⟩=>?_
 subst he;exact ChangeSpec.post_blind hp
theorem gF {P:Program} {W:World} {D:List (String×DataW Unit)} (nm:String) (d:DataW Unit) (H:D.filter (fun x=>x.1==nm)=[(nm,d)]) (h:laidMet P D W):laidMet P [(nm,d)] W:=H ▸ h.filter fun x=>x.1==nm
theorem kc {H:Type} {enc:TypeId×Value→H} {P:Program} {w:World} {base:Nat} {sp:Nat→Bool} {I:Bool} {fuel:Nat} {t e:TypeId} {n:Nat} {cs:List Value} {zs:List Bs} {p:List MemPlace}
  (ht:P.underlying t=some (.array n e)) (he:P.underlying e=some .string) (J:P.cellsOf e=1) (O:P.cellsOf t=n)
  (h:DataW.trod enc P w base sp I fuel t cs=some (.agg (zs.map fun z=> .lit (.string z)),p)):cs=zs.map fun z=>Value.string (bs z):=by
 cases fuel with
 | zero=>simp[DataW.trod] at h
 | succ fuel =>
  simp only[DataW.trod,ht,J,O,Nat.mul_one] at h;split at h
  ·rename_i hl
   obtain ⟨xs,U,hx⟩:=Option.map_eq_some_iff.1 h;have D:xs.map (·.1)=zs.map fun z=>(DataW.lit (.string z):DataW H):=by
    have:=congrArg Prod.fst hx;simpa using this
   have V:xs.length=n:=by simpa using Lib.mapM_length U
   have ad:zs.length=n:=by
    have:=congrArg List.length D;simp at this;omega
   apply List.ext_getElem?;intro i;by_cases Z:i<n
   ·obtain ⟨b,hb,hf⟩:=Lib.mapM_at U i i (by simp[Z])
    obtain ⟨s,hc,rfl,_⟩:=DataW.trod_string he hf;have h1:cs[i]? = some (.string s):=by
     have:=congrArg (·[0]?) hc;simpa[List.getElem?_take,List.getElem?_drop] using this
    have M:(xs.map (·.1))[i]? = some (DataW.lit (.string s.data.toList):DataW H):=by simp[hb]
    rw[D] at M;simp only[List.getElem?_map,Option.map_eq_some_iff,DataW.lit.injEq,Lit.string.injEq] at M;obtain ⟨z',N,rfl⟩:=M;simp[h1,N,wl]
   rw[List.getElem?_eq_none (by omega),List.getElem?_eq_none (by simp;omega)]
  cases h
theorem lF {P:Program} {W:World} {nm:String} {g:Nat} {t:TypeId} {ms:Array (String×TypeId)} {H:String} {d:DataW Unit} (N:P.globalNamed nm=some g) (I:(P.globals[g]?).map (·.type)=some t) (U:P.underlying t=some (.interface ms))
  (h:laidMet P [(nm,.iface H d)] W):∃ u v,W.cell? ⟨g,0,none⟩=some (.iface u v):=by
 obtain ⟨ps,⟨V,t',cs,fuel,p,q,M,J,D,hd,_,_⟩,_⟩:=h;obtain rfl:=Option.some.inj (N.symm.trans M);obtain rfl:=Option.some.inj (I.symm.trans J);obtain ⟨_,u,v,O,_,_⟩:=iface_of_trod U hd;refine ⟨u,v,?_⟩;rw[World.var?_cell N D 0];have:cs= #[.iface u v]:=by rw[←O]
 rw[this];rfl
end
section
open Go.RowKit
def BH:DataW Unit→Array Value
 | .agg l=>(l.map fun
  | .lit (.int k z)=>Value.int k z
  | .lit (.string s)=>Value.string (bs s)
  | _=>undef).toArray
 | _=> #[]
def zy (w0:World):World :=
 { w0 with heap:=w0.heap.modify 8 fun
   | .cells _ t h=> .cells (BH Go.Pinned.utf8First) t h
   | o=>o }
end
end Go.Proofs.YtecpeogejjibaaaGreatDoor
