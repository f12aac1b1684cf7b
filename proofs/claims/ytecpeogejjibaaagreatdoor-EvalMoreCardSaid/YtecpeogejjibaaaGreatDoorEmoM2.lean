/- table.Right. slices.IndexFunc and ContainsFunc over values and over rows, with a predicate that is handed in by its contract. foremankeep.small. Two values compared. table: Less. A struct's cells as a result, and a slot beside it. A row's wrap; what a laid list says of variables: for any seat. A world in which the table of first bytes is laid. -/
import Derived.Test.YtecpeogejjibaaaGreatDoorEmoM1
import Derived.Laws.ResultCell
import Derived.Laws.Rows
import Derived.Test.YtecpeogejjibaaaGreatDoorRows
import Derived.Test.YtecpeogejjibaaaGreatDoorProg
import Derived.Lib.LaidTab
import Derived.LaidLaws
import Derived.LaidSub
import Derived.LaidMore
import Derived.Shelf.Vars
import Derived.HandedShaped
set_option linter.unusedSimpArgs false
set_option linter.unusedVariables false
set_option maxRecDepth 100000
set_option maxHeartbeats 16000000
namespace Go.Proofs.YtecpeogejjibaaaGreatDoor
open Go.Lib renaming hid → Fx
open _root_.List renaming getElem?_eq_getElem → FA, getElem_mem → FE
open Go.World renaming block_lt_of_cell? → FC
open _root_.Nat renaming zero_le → FF
open aa renaming refl → FK
open Go.Value renaming string → FM, slice → FN, int → FR
open Go.Ending renaming returned → FP
open Go.Obj renaming cells → FQ
open Go.IntKind renaming i64 → FS
section
open Go.RowKit
attribute [local go_sem] ag ab ae af
theorem um {cs:List Cl} {r:List Vl} {n:Nat} (h:n<r.length) (D:ke cs r n=false):fv cs r=false:=by
 unfold fv;have:(List.range r.length).all (ke cs r)=false:=by
  rw[List.all_eq_false];exact ⟨n,List.mem_range.2 h,by rw[D];decide⟩
 rw[this,Bool.and_false]
theorem qW {t:Tb} {n:Nat} (h:n<t.rows.length) (D:fv t.cols t.rows[n]=false):ak t=false:=by
 unfold ak;have:t.rows.all (fv t.cols)=false:=by
  rw[List.all_eq_false];exact ⟨_,FE h,by rw[D];decide⟩
 rw[this,Bool.and_false]
def jP (A:Option Addr) (n c:Nat) (B:Option Addr) (m d:Nat):Value:= .agg #[FN A n c,FN B m d]
theorem wW (t:Tb) (A B:Option Addr) (c d:Nat) (w:World) (hA:Rd w [] 2 A t.cols.length (ai t.cols)) (hc:t.cols.length≤c) (hB:cM w [] B t.rows) (hn:∀ x∈t.cols,x.name.length≤1000000000) (hl:t.cols.length≤4294967296) (hm:t.rows.length≤4294967296) (hr:∀ r∈t.rows,r.length≤4294967296) :
  Calls Tryz.prog 13 #[jP A t.cols.length c B t.rows.length d] w fun e w'=>e=FP (.bool (ak t))∧aa [] w w':=by
 have I:=fun W (q:aa [] w W)=>gj t.cols A c W (hA.keep q) hc hn hl
 have HA:=Fx hA;have HB:=Fx hB;have bZ:=Fx hr;clear hA hB hn hr;show Calls _ _ #[.agg #[FN A t.cols.length c,FN B t.rows.length d]] w _
 cases h1:cp t.cols with
 | false =>
  rw[h1] at I;have HC:=Fx I;have HF:Hid (ak t=false):=Fx (by unfold ak;rw[h1];rfl);clear I h1;go_enter Tryz.func13,Tryz.ntmps13
  go_wp2_with (go_at_call 19;refine (HC.out _ ((FK _ _).alloc _)).mono ?_;rintro e w5 ⟨rfl,M⟩)
  go_ret;exact ⟨by rw[HF.out];rfl,((FK _ _).alloc _).trans M⟩
 | true =>
  rw[h1] at I;have HC:=Fx I;have b5:=Fx h1;clear I h1;by_cases h2:t.rows.length≤60
  ·have h2':¬((60:Int)<(t.rows.length:Int)):=by omega
   go_enter Tryz.func13,Tryz.ntmps13
   go_wp2_with (go_at_call 19;refine (HC.out _ ((FK _ _).alloc _)).mono ?_;rintro e w5 ⟨rfl,M⟩;have q0:=M.cell_of (p:=⟨w.heap.size,0,none⟩) (v:=FN A t.cols.length c) (by simp) (by simp);have q1:=M.cell_of (p:=⟨w.heap.size,1,none⟩) (v:=FN B t.rows.length d) (by simp) (by simp))
   obtain ⟨bt,ba⟩:∃ bt,w.heap.size=bt:=⟨_,rfl⟩
   have av:=Fx (((FK [] w).alloc (FQ #[FN A t.cols.length c,FN B t.rows.length d] 54)).trans M);rw[ba] at q0 q1 ⊢;have Q0:=Fx q0;have Q1:=Fx q1;clear M ba q0 q1;go_loopw [20] (fun i wr=>∃ n:Nat,n≤t.rows.length∧i=FR FS n∧Hid (∀ j (hj:j<n) (hl:j<t.rows.length),fv t.cols t.rows[j]=true)∧aa [] w5 wr) (fun i _=>t.rows.length-(intOf i).toNat)
   case atStart=>exact ⟨0,FF _,rfl,fun j hj=>absurd hj (by omega),FK _ _⟩
   obtain ⟨n,hn,rfl,a9,hk⟩:=hrel;by_cases bb:n<t.rows.length
   ·obtain ⟨us,b0,bj,bo⟩:=(HB.out.keep av.out).keep hk
    obtain ⟨b,o,rfl,_,hb,be⟩:=bj.open' (by omega) (by omega);have d1:=be n _ (FA (by omega));obtain ⟨Ar,cr,bl,cd,b4⟩:=bo n (by omega) bb;rw[bl] at d1;have q0:=hk.cell_of Q0.out (by simp);have q1:=hk.cell_of Q1.out (by simp);have b6:=bZ.out _ (FE bb);have a4:fv t.cols t.rows[n]=false→Hid (ak t=false):=fun h=>Fx (qW bb h)
    have a3:Hid (∀ r,t.rows[n]=r→fv t.cols r=true→∀ j (hj:j<n+1) (hl:j<t.rows.length),fv t.cols t.rows[j]=true):=fun r e hr j hj hl=>by
     by_cases h:j<n
     ·exact a9.out j h hl
     obtain rfl:j=n:=by omega
     rw[e];exact hr
    generalize hr:t.rows[n]=r at *;have a2:=Fx a4;have a8:=a3.out r rfl;have a8:=Fx a8;clear a9 be bj bo bl b0 a4 a3 hr;by_cases aA:r.length=t.cols.length
    ·have b1:((r.length:Int) != (t.cols.length:Int))=false:=by simp[aA]
     have bz:=Fx aA;obtain ⟨wo,br⟩:∃ wo:World,wo=wr:=⟨_,rfl⟩
     subst br;have ca:r.length≤t.cols.length:=by omega
     clear aA;go_wp2;go_loopw [32] (fun i wr=>∃ m:Nat,m≤r.length∧i=FR FS m∧Hid (∀ j,j<m→ke t.cols r j=true)∧aa [] wo wr) (fun i _=>r.length-(intOf i).toNat)
     case atStart=>exact ⟨0,FF _,rfl,fun j hj=>absurd hj (by omega),FK _ _⟩
     obtain ⟨m,hm,rfl,a5,Z⟩:=hrel;by_cases O:m<r.length
     ·obtain ⟨b2,o2,rfl,_,b8,ad⟩:=(b4.keep Z).open' (by omega) (by omega)
      have e1:=ad (m*3) _ (ay r m O).1;have e2:=ad (m*3+1) _ (ay r m O).2.1;have e3:=ad (m*3+2) _ (ay r m O).2.2;rw[←Nat.add_assoc] at e2 e3;obtain ⟨b3,o3,bv,_,b9,a1⟩:=(((HA.out.keep av.out).keep hk).keep Z).open' (by omega) (by omega);have f1:=a1 (m*2+1) _ (aN t.cols m (by omega)).2;rw[←Nat.add_assoc] at f1;have J:ke t.cols r m=(decide (r[m].kind=(t.cols[m]'(by omega)).kind)&&eS r[m]):=by unfold ke;rw[FA O,FA (by omega)]
      have q0:=Z.cell_of q0 (by simp);generalize r[m]=x at *;generalize (t.cols[m]'(by omega)).kind=ck at *;obtain ⟨N,xn,xs⟩:=x;subst bv;simp only at e1 e2 e3 J;have bm:Hid (ke t.cols r m=false→Hid (ak t=false)):=Fx (fun h=>a2.out (um O h));have bc:=Fx Z;have b7:m<t.cols.length:=by omega
      clear ad a1 Z;have ba:bt<wr.heap.size:=FC wr _ q0;have U:=cB ⟨N,xn,xs⟩;have a7:=fun o=>(FK [] wr).alloc o
      have G:Hid ((wr.alloc (FQ #[FR FS N,FR FS xn,FM (bs xs)] 46)).drew.cell? ⟨wr.heap.size,0,none⟩=some (FR FS N)∧(wr.alloc (FQ #[FR FS N,FR FS xn,FM (bs xs)] 46)).drew.cell? ⟨wr.heap.size,1,none⟩=some (FR FS xn)∧(wr.alloc (FQ #[FR FS N,FR FS xn,FM (bs xs)] 46)).drew.cell? ⟨wr.heap.size,2,none⟩=some (FM (bs xs))∧(wr.alloc (FQ #[FR FS N,FR FS xn,FM (bs xs)] 46)).drew.cell? ⟨bt,0,none⟩=some (FN (some ⟨b3,o3,none⟩) t.cols.length c)∧(wr.alloc (FQ #[FR FS N,FR FS xn,FM (bs xs)] 46)).drew.cell? ⟨b3,o3+m*2+1,none⟩=some (FR FS ck)):=Fx ⟨by simp,by simp,by simp,(a7 _).cell_of (p:=⟨bt,0,none⟩) q0 (by simp),(a7 _).cell_of (p:=⟨b3,o3+m*2+1,none⟩) f1 (by simp)⟩;clear a7;by_cases a0:N=ck
      ·subst a0
       have hz:(N != N)=false:=by simp
       have hokm':ke t.cols r m=eS ⟨N,xn,xs⟩:=by rw[J,decide_eq_true rfl,Bool.true_and]
       cases hb:eS ⟨N,xn,xs⟩ with
       | true =>
        rw[hb] at U hokm';have a6:=Fx U;have hok':Hid (∀ j,j<m+1→ke t.cols r j=true):=fun j hj=>by
         by_cases h:j<m
         ·exact a5.out j h
         obtain rfl:j=m:=by omega
         exact hokm'
        clear U J hokm' hb;go_wp2_with fail
        go_region_held3 (fun w'=>w'.cell? ⟨wr.heap.size,0,none⟩=some (FR FS N)∧w'.cell? ⟨wr.heap.size,1,none⟩=some (FR FS xn)∧w'.cell? ⟨wr.heap.size,2,none⟩=some (FM (bs xs))∧w'.cell? ⟨bt,0,none⟩=some (FN (some ⟨b3,o3,none⟩) t.cols.length c)∧w'.cell? ⟨b3,o3+m*2+1,none⟩=some (FR FS N)) (first|exact G.out|exact ⟨D.cell_of G.out.1 (by simp),D.cell_of G.out.2.1 (by simp),D.cell_of G.out.2.2.1 (by simp),D.cell_of G.out.2.2.2.1 (by simp),D.cell_of G.out.2.2.2.2 (by simp)⟩|go_keep) (first|(go_at_call 28;refine (a6.out _).mono ?_;rintro e w6 ⟨rfl,D⟩))
        all_goals go_wp2
        all_goals have K6:=Fx ((bc.out.alloc _).drew.trans D)
        all_goals clear D
        all_goals go_roundw
        case rel=>exact ⟨m+1,by omega,by go_num,hok',K6.out⟩
        case measure=>simp[intOf];omega
       | false =>
        rw[hb] at U hokm';have a6:=Fx U;have HF:=bm.out hokm';clear U J hokm' hb;go_wp2_with fail
        go_region_held3 (fun w'=>w'.cell? ⟨wr.heap.size,0,none⟩=some (FR FS N)∧w'.cell? ⟨wr.heap.size,1,none⟩=some (FR FS xn)∧w'.cell? ⟨wr.heap.size,2,none⟩=some (FM (bs xs))∧w'.cell? ⟨bt,0,none⟩=some (FN (some ⟨b3,o3,none⟩) t.cols.length c)∧w'.cell? ⟨b3,o3+m*2+1,none⟩=some (FR FS N)) (first|exact G.out|exact ⟨D.cell_of G.out.1 (by simp),D.cell_of G.out.2.1 (by simp),D.cell_of G.out.2.2.1 (by simp),D.cell_of G.out.2.2.2.1 (by simp),D.cell_of G.out.2.2.2.2 (by simp)⟩|go_keep) (first|(go_at_call 28;refine (a6.out _).mono ?_;rintro e w6 ⟨rfl,D⟩))
        all_goals go_wp2
        all_goals go_ret
        all_goals exact ⟨by rw[HF.out];rfl,(av.out.trans hk).trans ((bc.out.alloc _).drew.trans D)⟩
      have hz:(N != ck)=true:=by rw[bne_iff_ne];exact a0
      have HF:=bm.out (by rw[J,decide_eq_false a0,Bool.false_and]);clear U J a0;go_wp2_with fail
      go_quiet (fail)
      all_goals go_wp2
      all_goals go_ret
      all_goals exact ⟨by rw[HF.out];rfl,(av.out.trans hk).trans ((bc.out.alloc _).drewN _)⟩
     have bq:=Fx (a8.out (by
      unfold fv;rw[decide_eq_true bz.out,Bool.true_and,List.all_eq_true];intro j hj;exact a5.out j (by have:=List.mem_range.1 hj;omega)))
     have bX:=Fx (hk.trans Z);clear Z a5;go_wp2;go_roundw
     case rel=>exact ⟨n+1,by omega,by go_num,bq,bX.out⟩
     case measure=>simp[intOf];omega
    have b1:((r.length:Int) != (t.cols.length:Int))=true:=by rw[bne_iff_ne];omega
    have HF:=a2.out (by unfold fv;rw[decide_eq_false aA,Bool.false_and]);clear aA;go_wp2;go_ret;exact ⟨by rw[HF.out];rfl,av.out.trans hk⟩
   have bk:Hid (ak t=true):=Fx (by
    unfold ak;rw[b5.out,decide_eq_true h2,Bool.and_self,Bool.true_and,List.all_eq_true];intro r hr;obtain ⟨j,hj,rfl⟩:=List.getElem_of_mem hr;exact a9.out j (by omega) hj)
   go_wp2;go_ret;exact ⟨by rw[bk.out];rfl,av.out.trans hk⟩
  have h2':(60:Int)<(t.rows.length:Int):=by omega
  have HF:Hid (ak t=false):=Fx (by unfold ak;rw[decide_eq_false h2,Bool.and_false,Bool.false_and]);clear h2;go_enter Tryz.func13,Tryz.ntmps13
  go_wp2_with (go_at_call 19;refine (HC.out _ ((FK _ _).alloc _)).mono ?_;rintro e w5 ⟨rfl,M⟩;have q1:=M.cell_of (p:=⟨w.heap.size,1,none⟩) (v:=FN B t.rows.length d) (by simp) (by simp))
  go_ret;exact ⟨by rw[HF.out];rfl,((FK _ _).alloc _).trans M⟩
def C5 (k:Nat) (cap:Array Value) (p:Vl→Bool) (l:List Vl) (w:World):Prop :=
 ∀ c∈l,∀ W,aa [] w W→Calls Tryz.prog k (#[fV c]++cap) W fun e W'=>e=FP (.bool (p c))∧aa [] W W'
def C6 (k:Nat) (cap:Array Value) (p:List Vl→Bool) (l:List (List Vl)) (w:World):Prop :=
 ∀ r∈l,∀ A c W,aa [] w W→r.length≤c→Rd W [] 3 A r.length (al r)→Calls Tryz.prog k (#[FN A r.length c]++cap) W fun e W'=>e=FP (.bool (p r))∧aa [] W W'
theorem nx (k:Nat) (cap:Array Value) (he:∀ args w,(callFunc k args).run Tryz.prog w= .ok (.enter k args) w) (p:Vl→Bool) (l:List Vl) (A:Option Addr) (c:Nat) (w:World) (hR:Rd w [] 3 A l.length (al l)) (hl:l.length≤4294967296) (hf:C5 k cap p l w) :
  Calls Tryz.prog 73 #[FN A l.length c,.func (.func k) #[] cap] w fun e w'=>e=FP (FR FS (bh p l))∧aa [] w w':=by
 have HR:=Fx hR;have HF:=Fx hf;clear hR hf;go_enter Tryz.func73,Tryz.ntmps73
 go_wp2;go_loopw [8] (fun i wr=>∃ n:Nat,n≤l.length∧i=FR FS n∧Hid (∀ j (J:j<n) (hl:j<l.length),p l[j]=false)∧aa [] w wr) (fun i _=>l.length-(intOf i).toNat)
 case atStart=>exact ⟨0,FF _,rfl,fun j J=>absurd J (by omega),FK _ _⟩
 obtain ⟨n,hn,rfl,M,U⟩:=hrel;by_cases I:n<l.length
 ·obtain ⟨b,o,rfl,_,hb,Z⟩:=(HR.out.keep U).open' (by omega) (by omega)
  have d1:=Z (n*3) _ (ay l n I).1;have d2:=Z (n*3+1) _ (ay l n I).2.1;have d3:=Z (n*3+2) _ (ay l n I).2.2;rw[←Nat.add_assoc] at d2 d3;have HH:=HF.out l[n] (FE I) wr U;generalize hx:l[n]=x at *;have HX:=Fx hx;have HH':=Fx HH;clear HH Z hx
  cases O:p x with
  | true =>
   have D:bh p l=(n:Int):=dX I (fun j J=>M j J (by omega)) ((congrArg p HX.out).trans O);rw[O] at HH';have HP:=Fx D;clear D O;go_wp2_with fail
   refine HH'.out.mono ?_;rintro e W2 ⟨rfl,N⟩;go_wp2;go_ret;exact ⟨by rw[HP.out];rfl,U.trans N⟩
  | false =>
   have hno':Hid (∀ j (J:j<n+1) (hl:j<l.length),p l[j]=false):=fun j J hl=>by
    by_cases h:j<n
    ·exact M j h hl
    obtain rfl:j=n:=by omega
    exact (congrArg p HX.out).trans O
   rw[O] at HH';clear O;go_wp2_with fail
   refine HH'.out.mono ?_;rintro e W2 ⟨rfl,N⟩;go_wp2;go_roundw
   case rel=>exact ⟨n+1,by omega,by go_num,hno',U.trans N⟩
   case measure=>simp[intOf];omega
 have D:Hid (bh p l= -1):=dF fun j J=>M j (by omega) J
 go_wp2;go_ret;exact ⟨by rw[D.out];rfl,U⟩
theorem kN (k:Nat) (cap:Array Value) (I:∀ args w,(callFunc k args).run Tryz.prog w= .ok (.enter k args) w) (p:Vl→Bool) (l:List Vl) (A:Option Addr) (c:Nat) (w:World) (D:Rd w [] 3 A l.length (al l)) (N:l.length≤4294967296) (J:C5 k cap p l w) :
  Calls Tryz.prog 39 #[FN A l.length c,.func (.func k) #[] cap] w fun e w'=>e=FP (.bool (l.any p))∧aa [] w w':=by
 have M:=Fx (nx k cap I p l A c w D N J);clear D J I;rw[←dY];go_enter Tryz.func39,Tryz.ntmps39
 go_wp2_with (go_at_call 73;refine M.out.mono ?_;rintro e O ⟨rfl,h⟩)
 go_ret;exact ⟨rfl,h⟩
theorem ny (k:Nat) (cap:Array Value) (he:∀ args w,(callFunc k args).run Tryz.prog w= .ok (.enter k args) w) (p:(List Vl)→Bool) (l:List (List Vl)) (A:Option Addr) (c:Nat) (w:World) (hR:cM w [] A l) (hl:l.length≤4294967296) (hf:C6 k cap p l w) :
  Calls Tryz.prog 72 #[FN A l.length c,.func (.func k) #[] cap] w fun e w'=>e=FP (FR FS (bh p l))∧aa [] w w':=by
 have HR:=Fx hR;have HF:=Fx hf;clear hR hf;go_enter Tryz.func72,Tryz.ntmps72
 go_wp2;go_loopw [8] (fun i wr=>∃ n:Nat,n≤l.length∧i=FR FS n∧Hid (∀ j (I:j<n) (hl:j<l.length),p l[j]=false)∧aa [] w wr) (fun i _=>l.length-(intOf i).toNat)
 case atStart=>exact ⟨0,FF _,rfl,fun j I=>absurd I (by omega),FK _ _⟩
 obtain ⟨n,hn,rfl,J,U⟩:=hrel;by_cases M:n<l.length
 ·obtain ⟨us,a1,av,a0⟩:=HR.out.keep U
  obtain ⟨b,o,rfl,_,hb,hc⟩:=av.open' (by omega) (by omega);have d1:=hc n _ (FA (by omega));obtain ⟨Ar,cr,ad,Z,aA⟩:=a0 n (by omega) M;rw[ad] at d1;have HH:=HF.out l[n] (FE M) Ar cr wr U Z aA;clear ad Z aA av a0;generalize hx:l[n]=x at *;have HX:=Fx hx;have HH':=Fx HH;clear HH hc hx
  cases O:p x with
  | true =>
   have D:bh p l=(n:Int):=dX M (fun j I=>J j I (by omega)) ((congrArg p HX.out).trans O);rw[O] at HH';have HP:=Fx D;clear D O;go_wp2_with fail
   refine HH'.out.mono ?_;rintro e W2 ⟨rfl,N⟩;go_wp2;go_ret;exact ⟨by rw[HP.out];rfl,U.trans N⟩
  | false =>
   have hno':Hid (∀ j (I:j<n+1) (hl:j<l.length),p l[j]=false):=fun j I hl=>by
    by_cases h:j<n
    ·exact J j h hl
    obtain rfl:j=n:=by omega
    exact (congrArg p HX.out).trans O
   rw[O] at HH';clear O;go_wp2_with fail
   refine HH'.out.mono ?_;rintro e W2 ⟨rfl,N⟩;go_wp2;go_roundw
   case rel=>exact ⟨n+1,by omega,by go_num,hno',U.trans N⟩
   case measure=>simp[intOf];omega
 have D:Hid (bh p l= -1):=dF fun j I=>J j (by omega) I
 go_wp2;go_ret;exact ⟨by rw[D.out];rfl,U⟩
theorem kO (k:Nat) (cap:Array Value) (I:∀ args w,(callFunc k args).run Tryz.prog w= .ok (.enter k args) w) (p:(List Vl)→Bool) (l:List (List Vl)) (A:Option Addr) (c:Nat) (w:World) (D:cM w [] A l) (N:l.length≤4294967296) (J:C6 k cap p l w) :
  Calls Tryz.prog 37 #[FN A l.length c,.func (.func k) #[] cap] w fun e w'=>e=FP (.bool (l.any p))∧aa [] w w':=by
 have M:=Fx (ny k cap I p l A c w D N J);clear D J I;rw[←dY];go_enter Tryz.func37,Tryz.ntmps37
 go_wp2_with (go_at_call 72;refine M.out.mono ?_;rintro e O ⟨rfl,h⟩)
 go_ret;exact ⟨rfl,h⟩
def ek (t:Tb):Bool:=!(decide (8<t.cols.length)||decide (65<t.rows.length)||t.cols.any (fun c=>decide (40<c.name.length))) && !(t.rows.any fun r=>decide (8<r.length)||r.any fun v=>decide (40<v.word.length))
theorem wX (c:Cl) (w:World):Calls Tryz.prog 36 #[BM c] w fun e w'=>e=FP (.bool (decide (40<c.name.length)))∧aa [] w w':=by
 obtain ⟨s,k⟩:=c;show Calls _ _ #[.agg #[FM (bs s),FR FS k]] w _;go_enter Tryz.func36,Tryz.ntmps36
 go_wp2;go_ret;exact ⟨congrArg (fun b=>Ending.returned (.bool b)) (decide_eq_decide.2 (show ((40:Int)<(s.length:Int))↔40<s.length by omega)),(FK _ _).alloc _⟩
theorem wY (v:Vl) (w:World):Calls Tryz.prog 40 #[fV v] w fun e w'=>e=FP (.bool (decide (40<v.word.length)))∧aa [] w w':=by
 obtain ⟨k,n,s⟩:=v;show Calls _ _ #[.agg #[FR FS k,FR FS n,FM (bs s)]] w _;go_enter Tryz.func40,Tryz.ntmps40
 go_wp2;go_ret;exact ⟨congrArg (fun b=>Ending.returned (.bool b)) (decide_eq_decide.2 (show ((40:Int)<(s.length:Int))↔40<s.length by omega)),(FK _ _).alloc _⟩
theorem wZ (r:List Vl) (A:Option Addr) (c:Nat) (w:World) (U:r.length≤c) (D:Rd w [] 3 A r.length (al r)) :
  Calls Tryz.prog 38 #[FN A r.length c] w fun e w'=>e=FP (.bool (decide (8<r.length)||r.any fun v=>decide (40<v.word.length)))∧aa [] w w':=by
 by_cases h:8<r.length
 ·have M:(8:Int)<(r.length:Int):=by omega
  have N:Hid ((decide (8<r.length)||r.any fun v=>decide (40<v.word.length))=true):=Fx (by rw[decide_eq_true h];rfl);rw[N.out];clear D h;go_enter Tryz.func38,Tryz.ntmps38
  go_wp2;go_ret;exact ⟨rfl,FK _ _⟩
 have M:¬(8:Int)<(r.length:Int):=by omega
 have J:=Fx (kN 40 #[] (enters_of Tryz.func40 (by kernel_rfl) rfl) (fun v=>decide (40<v.word.length)) r A c w D (by omega) (fun v _ W _=>wY v W));rw[decide_eq_false h,Bool.false_or];generalize (r.any fun v=>decide (40<v.word.length))=R at *;clear D h;go_enter Tryz.func38,Tryz.ntmps38
 go_wp2_with (go_at_call 39;refine J.out.mono ?_;rintro e O ⟨rfl,I⟩)
 go_ret;exact ⟨rfl,I⟩
theorem xd (t:Tb) (A B:Option Addr) (c d:Nat) (w:World) (M:Rd w [] 2 A t.cols.length (ai t.cols)) (N:cM w [] B t.rows) :
  Calls Tryz.prog 16 #[jP A t.cols.length c B t.rows.length d] w fun e w'=>e=FP (.bool (ek t))∧aa [] w w':=by
 show Calls _ _ #[.agg #[FN A t.cols.length c,FN B t.rows.length d]] w _;by_cases I:8<t.cols.length
 ·have h1:(8:Int)<(t.cols.length:Int):=by omega
  have J:Hid (ek t=false):=Fx (by unfold ek;rw[decide_eq_true I];rfl);clear M N I;go_enter Tryz.func16,Tryz.ntmps16
  go_wp2;go_ret;exact ⟨by rw[J.out];rfl,(FK _ _).alloc _⟩
 have h1:¬(8:Int)<(t.cols.length:Int):=by omega
 by_cases D:65<t.rows.length
 ·have h2:(65:Int)<(t.rows.length:Int):=by omega
  have J:Hid (ek t=false):=Fx (by unfold ek;rw[decide_eq_true D,Bool.or_true];rfl);clear M N I D;go_enter Tryz.func16,Tryz.ntmps16
  go_wp2;go_ret;exact ⟨by rw[J.out];rfl,(FK _ _).alloc _⟩
 have h2:¬(65:Int)<(t.rows.length:Int):=by omega
 have U:=Fx (fun W (q:aa [] w W)=>fZ 36 #[] (enters_of Tryz.func36 (by kernel_rfl) rfl) (fun c=>decide (40<c.name.length)) t.cols A c W (M.keep q) (by omega) (fun v _ W _=>wX v W));have HD:=Fx (fun W (q:aa [] w W)=>kO 38 #[] (enters_of Tryz.func38 (by kernel_rfl) rfl) (fun r=>decide (8<r.length)||r.any fun v=>decide (40<v.word.length)) t.rows B d W (N.keep q) (by omega) (fun r _ A c W _ hc Z=>wZ r A c W hc Z));have J:Hid (ek t=(!(t.cols.any (fun c=>decide (40<c.name.length))) && !(t.rows.any fun r=>decide (8<r.length)||r.any fun v=>decide (40<v.word.length)))):=Fx (by unfold ek;rw[decide_eq_false D,decide_eq_false I];rfl);rw[J.out];generalize (t.rows.any fun r=>decide (8<r.length)||r.any fun v=>decide (40<v.word.length))=R at *;generalize (t.cols.any (fun c=>decide (40<c.name.length)))=Q at *;clear M N I D
 cases Q with
 | true =>
  go_enter Tryz.func16,Tryz.ntmps16
  go_wp2_with (go_at_call 35;refine (U.out _ ((FK _ _).alloc _)).mono ?_;rintro e W2 ⟨rfl,h⟩)
  go_ret;exact ⟨rfl,((FK _ _).alloc _).trans h⟩
 | false =>
  go_enter Tryz.func16,Tryz.ntmps16
  go_wp2_with (go_at_call 35;refine (U.out _ ((FK _ _).alloc _)).mono ?_;rintro e W2 ⟨rfl,h⟩;have q1:=h.cell_of (p:=⟨w.heap.size,1,none⟩) (v:=FN B t.rows.length d) (by simp) (by simp))
  refine (HD.out _ (((FK _ _).alloc _).trans h)).mono ?_;rintro e W3 ⟨rfl,O⟩;go_wp2;go_ret;exact ⟨rfl,(((FK _ _).alloc _).trans h).trans O⟩
end
section
open Go.RowKit Go.BigFrame
attribute [local go_sem] ag ab ae af
theorem EN (k n:Int) (s:Bs) (D h:Int) (I:Bs) (W:World):(binOp .eql 46 (.agg #[FR FS k,FR FS n,FM (bs s)]) (.agg #[FR FS D,FR FS h,FM (bs I)])).run Tryz.prog W= .ok (.bool (decide ((⟨k,n,s⟩:Vl)=⟨D,h,I⟩))) W:=by
 have hd:decide ((⟨k,n,s⟩:Vl)=⟨D,h,I⟩)=(decide (k=D)&&decide (n=h)&&decide (s=I)):=by
  rw[Bool.eq_iff_iff];simp[and_assoc]
 rw[hd];simp[go_sem];by_cases M:k=D<;>by_cases N:n=h<;>by_cases J:s=I<;>simp[M,N,J,go_sem]
end
section
open Go.RowKit
attribute [local go_sem] ag ab ae af
theorem lE (a b:Vl) (w:World) :
  Calls Tryz.prog 138 #[fV a,fV b] w fun e w'=>e=FP (.bool (cL a b))∧aa [] w w':=by
 obtain ⟨k,n,s⟩:=a;obtain ⟨I,N,U⟩:=b;show Calls _ _ #[.agg #[FR FS k,FR FS n,FM (bs s)],.agg #[FR FS I,FR FS N,FM (bs U)]] w _;obtain ⟨R,h⟩:∃ R,cL ⟨k,n,s⟩ ⟨I,N,U⟩=R:=⟨_,rfl⟩
 rw[h];by_cases M:k=I
 ·subst M
  have O:(k != k)=false:=by simp
  by_cases D:k=1
  ·have Z:(k==1)=true:=by rw[D];rfl
   have J:Hid (R=decide (n<N)):=Fx (h.symm.trans ((if_pos rfl).trans (if_pos D)));clear D h;go_enter Tryz.func138,Tryz.ntmps138
   go_wp2;go_ret;exact ⟨by rw[J.out];rfl,((FK _ _).alloc _).alloc _⟩
  have Z:(k==1)=false:=by rw[beq_eq_false_iff_ne];exact D
  have J:Hid (R=Op.bytesLess s U):=Fx (h.symm.trans ((if_pos rfl).trans (if_neg D)));clear D h;go_enter Tryz.func138,Tryz.ntmps138
  go_wp2;go_ret;exact ⟨by rw[J.out];rfl,((FK _ _).alloc _).alloc _⟩
 have O:(k != I)=true:=by rw[bne_iff_ne];exact M
 have J:Hid (R=decide (k<I)):=Fx (h.symm.trans (if_neg M));clear M h;go_enter Tryz.func138,Tryz.ntmps138
 go_wp2;go_ret;exact ⟨by rw[J.out];rfl,((FK _ _).alloc _).alloc _⟩
end
section
open Go.RowKit Go.BigFrame
attribute [local go_sem] ag ab ae af
theorem bE {P:Program} {J:Func} {p u:Tmp} {I:TypeId} (h:J.results= #[.cell p I,.tmp u]) (D:Array Value) (w:World) (g:Nat) (t:TypeId) (cs:Array Value) (M:Nat×Nat) (d:TypeDesc)
  (O:D.getD p undef= .pointer (some ⟨g,0,none⟩)) (U:w.heap[g]? = some (.cells cs t M))
  (N:P.underlying I=some d) (hd:(match d with | .struct _ | .array _ _=>true|_=>false)=true) (Z:(P.info? I).map (·.size)=some cs.size) :
  (results J D).run P w= .ok (.tuple #[.agg cs,D.getD u undef]) w:=by
 rw[results_cell_tmp h,O];simp[asAddr,run_loadVar_row w g t I cs M d U N hd Z,Result.andThen]
end
section
open Go.RowKit Go.ChangeShapes Go.WideShapes
theorem pG {H:Type} {enc:TypeId×Value→H} {a:Assume} {C:Checked} {os:Os} {f:FuncId} {fn:Func} {s:ChangeSpec} {O:List PathCond} {h ad J U:Bool} {X:World→Array Value→Prop}
  (hX:∀ (w w':World) (args:Array Value),w.heap=w'.heap→X w args→X w' args)
  (a5:ownKnob C.prog.godebug=none) (N:os.Started) (av:C.prog.inits.idxOf? f=none) (a4:C.prog.funcs[f]? = some fn)
  (Z:∃ (w:World) (D:Tape) (i:Input),w.os=os∧(w.forCall D i).Shaped C.prog∧i.vars=[]∧Input.okWide C.prog (w.forCall D i) .any w.heap.size f i ∧
   ((s.pre enc C.prog fn O h (w.forCall D i).memory i.args∧X (w.forCall D i).memory i.args)∧sizedMet enc C.prog fn (OpenSpec.ofChange s) h (w.forCall D i).memory i.args)∧a.holds C.prog (lone (Frame.enter C.prog f i.args .normal) [] (w.forCall D i)))
  (M:∀ (W:World) (base:Nat) (args:Array Value) (ds gs:List (DataW H)) (I:List MemPlace),
   (∀ (j:Nat) t v,fn.params[j]? = some t→args[j]? = some v→Value.okWide C.prog W .any base t v) →
   DataW.Whole enc C.prog fn.params.toList s.vars h W args.toList ds gs I→X W args→W.ShapedOpen C.prog →
   Calls C.prog f args W fun e W'=>∃ v,e= .returned v∧s.post enc C.prog fn h ad J U W args v W') :
  ReturnsInHanded a C os f .any (fun w args=>(s.pre enc C.prog fn O h w args∧X w args)∧sizedMet enc C.prog fn (OpenSpec.ofChange s) h w args) (s.post enc C.prog fn h ad J U):=by
 refine returnsInHanded_of_calls a5 N av Z ?_;intro w D i _ a3 _ a2 a0 _;obtain ⟨_,_,_,a6,a1,_,_,_,_,aA⟩:=a2;obtain rfl:a6=fn:=Option.some.inj (a1.symm.trans a4);obtain ⟨⟨⟨ds,gs,I,hw,_⟩,hx⟩,_⟩:=a0;have hw':=DataW.Whole.of_heap (w':=w.forCall D i) (by rfl) hw;refine (M (w.forCall D i) w.heap.size i.args ds gs I aA hw' (hX _ _ _ (by rfl) hx) a3).mono fun e W' ⟨v,he,hp⟩=>?_
 subst he;exact ChangeSpec.post_blind hp
theorem gF {P:Program} {W:World} {D:List (String×DataW Unit)} (nm:String) (d:DataW Unit) (I:D.filter (fun x=>x.1==nm)=[(nm,d)]) (h:laidMet P D W):laidMet P [(nm,d)] W:=I ▸ h.filter fun x=>x.1==nm
theorem kc {H:Type} {enc:TypeId×Value→H} {P:Program} {w:World} {base:Nat} {sp:Nat→Bool} {I:Bool} {fuel:Nat} {t e:TypeId} {n:Nat} {cs:List Value} {zs:List Bs} {p:List MemPlace}
  (ht:P.underlying t=some (.array n e)) (he:P.underlying e=some .string) (O:P.cellsOf e=1) (N:P.cellsOf t=n)
  (h:DataW.trod enc P w base sp I fuel t cs=some (.agg (zs.map fun z=> .lit (.string z)),p)):cs=zs.map fun z=>Value.string (bs z):=by
 cases fuel with
 | zero=>simp[DataW.trod] at h
 | succ fuel =>
  simp only[DataW.trod,ht,O,N,Nat.mul_one] at h;split at h
  ·rename_i hl
   obtain ⟨xs,U,hx⟩:=Option.map_eq_some_iff.1 h;have D:xs.map (·.1)=zs.map fun z=>(DataW.lit (.string z):DataW H):=by
    have:=congrArg Prod.fst hx;simpa using this
   have av:xs.length=n:=by simpa using Lib.mapM_length U
   have ad:zs.length=n:=by
    have:=congrArg List.length D;simp at this;omega
   apply List.ext_getElem?;intro i;by_cases hi:i<n
   ·obtain ⟨b,Z,hf⟩:=Lib.mapM_at U i i (by simp[hi])
    obtain ⟨s,hc,rfl,_⟩:=DataW.trod_string he hf;have h1:cs[i]? = some (.string s):=by
     have:=congrArg (·[0]?) hc;simpa[List.getElem?_take,List.getElem?_drop] using this
    have J:(xs.map (·.1))[i]? = some (DataW.lit (.string s.data.toList):DataW H):=by simp[Z]
    rw[D] at J;simp only[List.getElem?_map,Option.map_eq_some_iff,DataW.lit.injEq,Lit.string.injEq] at J;obtain ⟨z',M,rfl⟩:=J;simp[h1,M,vY]
   rw[List.getElem?_eq_none (by omega),List.getElem?_eq_none (by simp;omega)]
  cases h
theorem lJ {P:Program} {W:World} {nm:String} {g:Nat} {t:TypeId} {ms:Array (String×TypeId)} {name:String} {d:DataW Unit} (N:P.globalNamed nm=some g) (I:(P.globals[g]?).map (·.type)=some t) (U:P.underlying t=some (.interface ms))
  (h:laidMet P [(nm,.iface name d)] W):∃ u v,W.cell? ⟨g,0,none⟩=some (.iface u v):=by
 obtain ⟨ps,⟨Z,t',cs,fuel,p,q,M,J,D,hd,_,_⟩,_⟩:=h;obtain rfl:=Option.some.inj (N.symm.trans M);obtain rfl:=Option.some.inj (I.symm.trans J);obtain ⟨_,u,v,O,_,_⟩:=iface_of_trod U hd;refine ⟨u,v,?_⟩;rw[World.var?_cell N D 0];have:cs= #[.iface u v]:=by rw[←O]
 rw[this];rfl
end
section
open Go.RowKit
def BH:DataW Unit→Array Value
 | .agg l=>(l.map fun
  | .lit (.int k z)=>Value.int k z
  | .lit (.string s)=>Value.string (bs s)
  | _=>undef).toArray
 | _=> #[]
def zt (w0:World):World :=
 { w0 with heap:=w0.heap.modify 8 fun
   | .cells _ t h=> .cells (BH Go.Pinned.utf8First) t h
   | o=>o }
end
end Go.Proofs.YtecpeogejjibaaaGreatDoor
