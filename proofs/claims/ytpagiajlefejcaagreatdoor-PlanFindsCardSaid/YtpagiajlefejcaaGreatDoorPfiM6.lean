/- table.RightCols; slices.IndexFunc, ContainsFunc at columns. slices.IndexFunc and ContainsFunc over texts, with a predicate that is handed in by its contract. -/
import Derived.Test.YtpagiajlefejcaaGreatDoorPfiM2
import Derived.Test.YtpagiajlefejcaaGreatDoorPfiM4
import Derived.Test.YtpagiajlefejcaaGreatDoorPfiM1
import Derived.Test.YtpagiajlefejcaaGreatDoorShOps
import Derived.Laws.CopyOwn
import Derived.Deep.DeepCutAuto
import Derived.StillTailTactics
import Derived.Deep.CutBlock
import Derived.Sort.Grow
import Derived.Lib.ItoaLen
import Derived.Deep.CutRange
set_option linter.unusedSimpArgs false
set_option linter.unusedVariables false
set_option maxRecDepth 100000
set_option maxHeartbeats 16000000
namespace Go.Proofs.YtpagiajlefejcaaGreatDoor
open Go.Lib renaming hid → zx
open Go.Proofs.Tryz renaming prog → zy
open _root_.Nat renaming le_refl → zz, le_trans → zA, zero_le → zE
open Go.World renaming block_lt_of_cell? → zB, news_of_block → zJ
open _root_.List renaming mem_singleton → zD, length_append → zF, getElem_mem → zH, getElem?_eq_getElem → zI, getD_eq_getElem?_getD → zM
open aa renaming refl → zN
open ap renaming new → zO
open KW renaming of → zP
open Go.Value renaming string → zQ, slice → zR, pointer → zS, int → zW
open Go.Ending renaming returned → zT
open Go.Obj renaming cells → zU
open Go.IntKind renaming i64 → zX
section
open Go.RowKit
attribute [local go_sem] ag ab ae af
def du (p:Cl→Bool) (l:List Cl):Int:=match l.findIdx? p with|some i=>(i:Int)|none=> -1
theorem jT {p:Cl→Bool} {l:List Cl} {k:Nat} (h:k<l.length) (D:∀ j (A:j<k),p (l[j]'(by omega))=false) (B:p l[k]=true):du p l=(k:Int):=by
 unfold du;have:l.findIdx? p=some k:=by
  rw[List.findIdx?_eq_some_iff_getElem];exact ⟨h,B,fun j A=>by rw[D j A];simp⟩
 rw[this]
theorem i8 {p:Cl→Bool} {l:List Cl} (A:∀ j (h:j<l.length),p l[j]=false):du p l= -1:=by
 unfold du;have:l.findIdx? p=none:=by
  rw[List.findIdx?_eq_none_iff];intro x B;obtain ⟨j,h,rfl⟩:=List.getElem_of_mem B;simp[A j h]
 rw[this]
theorem oL (p:Cl→Bool) (l:List Cl):decide (0≤du p l)=l.any p:=by
 rw[Bool.eq_iff_iff,decide_eq_true_iff,List.any_eq_true];unfold du
 cases h:l.findIdx? p with
 | none =>
  rw[List.findIdx?_eq_none_iff] at h;simp;intro x D;simpa using h x D
 | some i =>
  rw[List.findIdx?_eq_some_iff_getElem] at h;obtain ⟨B,A,_⟩:=h;simp;exact ⟨_,zH B,A⟩
def wJ (k:Nat) (h:Array Value) (p:Cl→Bool) (l:List Cl) (w:World):Prop :=
 ∀ c∈l,∀ W,aa [] w W→Calls zy k (#[wV c]++h) W fun e A=>e=zT (.bool (p c))∧aa [] W A
theorem gQ (k:Nat) (Z:Array Value) (he:∀ args w,(callFunc k args).run zy w= .ok (.enter k args) w) (p:Cl→Bool) (l:List Cl) (A:Option Addr) (c:Nat) (w:World) (hR:Rd w [] 2 A l.length (ah l)) (hl:l.length≤4294967296) (hf:wJ k Z p l w) :
  Calls zy 115 #[zR A l.length c,.func (.func k) #[] Z] w fun e w'=>e=zT (zW zX (du p l))∧aa [] w w':=by
 have HR:=zx hR;have HF:=zx hf;clear hR hf;go_enter Tryz.func115,Tryz.ntmps115
 go_wp2;go_loopw [8] (fun i wr=>∃ n:Nat,n≤l.length∧i=zW zX n∧Hid (∀ j (I:j<n) (hl:j<l.length),p l[j]=false)∧aa [] w wr) (fun i _=>l.length-(intOf i).toNat)
 case atStart=>exact ⟨0,zE _,rfl,fun j I=>absurd I (by omega),zN _ _⟩
 obtain ⟨n,hn,rfl,J,U⟩:=hrel;by_cases D:n<l.length
 ·obtain ⟨b,o,rfl,_,hb,hc⟩:=(HR.out.keep U).open' (by omega) (by omega)
  have d1:=hc (n*2) _ (al l n D).1;have d2:=hc (n*2+1) _ (al l n D).2;rw[←Nat.add_assoc] at d2;have HH:=HF.out l[n] (zH D) wr U;generalize hx:l[n]=x at *;have HX:=zx hx;have HH':=zx HH;clear HH hc hx
  cases O:p x with
  | true =>
   have B:du p l=(n:Int):=jT D (fun j I=>J j I (by omega)) ((congrArg p HX.out).trans O);rw[O] at HH';have HP:=zx B;clear B O;go_wp2_with fail
   refine HH'.out.mono ?_;rintro e W2 ⟨rfl,M⟩;go_wp2;go_ret;exact ⟨by rw[HP.out];rfl,U.trans M⟩
  | false =>
   have hno':Hid (∀ j (I:j<n+1) (hl:j<l.length),p l[j]=false):=fun j I hl=>by
    by_cases h:j<n
    ·exact J j h hl
    obtain rfl:j=n:=by omega
    exact (congrArg p HX.out).trans O
   rw[O] at HH';clear O;go_wp2_with fail
   refine HH'.out.mono ?_;rintro e W2 ⟨rfl,M⟩;go_wp2;go_roundw
   case rel=>exact ⟨n+1,by omega,by go_num,hno',U.trans M⟩
   case measure=>simp[intOf];omega
 have B:Hid (du p l= -1):=i8 fun j I=>J j (by omega) I
 go_wp2;go_ret;exact ⟨by rw[B.out];rfl,U⟩
theorem ja (k:Nat) (h:Array Value) (I:∀ args w,(callFunc k args).run zy w= .ok (.enter k args) w) (p:Cl→Bool) (l:List Cl) (A:Option Addr) (c:Nat) (w:World) (J:Rd w [] 2 A l.length (ah l)) (M:l.length≤4294967296) (D:wJ k h p l w) :
  Calls zy 51 #[zR A l.length c,.func (.func k) #[] h] w fun e w'=>e=zT (.bool (l.any p))∧aa [] w w':=by
 have O:=zx (gQ k h I p l A c w J M D);clear J D I;rw[←oL];go_enter Tryz.func51,Tryz.ntmps51
 go_wp2_with (go_at_call 115;refine O.out.mono ?_;rintro e U ⟨rfl,B⟩)
 go_ret;exact ⟨rfl,B⟩
theorem kW {w:World} {L:List Nat} {A:Option Addr} {l:List Cl} {k:Nat} (h:Rd w L 2 A l.length (ah l)) (Z:k≤l.length):Rd w L 2 A (l.take k).length (ah (l.take k)):=by
 refine ⟨eX _,fun I=>?_⟩;obtain ⟨U,e,J,B,O⟩:=h.2 (by rw[List.length_take] at I;omega);refine ⟨U,e,J,B,fun j u D=>O j u ?_⟩;have M:ah l=ah (l.take k)++ah (l.drop k):=by rw[←kN,List.take_append_drop]
 rw[M,List.getElem?_append_left (List.getElem?_eq_some_iff.1 D).1];exact D
theorem pV (c d:Cl) (b:Nat) (w:World) (A:w.cell? ⟨b,0,none⟩=some (zQ (bs c.name))) :
  Calls zy 52 #[wV d,zS (some ⟨b,0,none⟩)] w fun e w'=>e=zT (.bool (d.name==c.name))∧aa [] w w':=by
 have h:=zB _ _ A;have hb':(w.alloc (zU #[zQ (bs d.name),zW zX d.kind] 109)).cell? ⟨b,0,none⟩=some (zQ (bs c.name)):=((zN [] w).alloc _).cell_of A (by simp);show Calls _ _ #[.agg #[zQ (bs d.name),zW zX d.kind],zS (some ⟨b,0,none⟩)] w _;clear A h;go_enter Tryz.func52,Tryz.ntmps52
 go_wp2;go_ret;exact ⟨rfl,(zN _ _).alloc _⟩
theorem jU {l:List Cl} {n:Nat} (h:n<l.length) (A:dV l n=false):cN l=false:=by
 unfold cN;have:(List.range l.length).all (dV l)=false:=by
  rw[List.all_eq_false];exact ⟨n,List.mem_range.2 h,by rw[A];decide⟩
 rw[this,Bool.and_false]
theorem mu (l:List Cl) (A:Option Addr) (c:Nat) (w:World) (hR:Rd w [] 2 A l.length (ah l)) (hc:l.length≤c) (hn:∀ x∈l,x.name.length≤1000000000) (hl:l.length≤4294967296) :
  Calls zy 10 #[zR A l.length c] w fun e w'=>e=zT (.bool (cN l))∧aa [] w w':=by
 have HR:=zx hR;have HN:=zx hn;clear hR hn;by_cases h1:1≤l.length∧l.length≤6
 ·have q1:¬((l.length:Int)<1):=by omega
  have q2:¬((6:Int)<(l.length:Int)):=by omega
  have HQ:=zx h1;clear h1;go_enter Tryz.func10,Tryz.ntmps10
  go_wp2;go_loopw [15] (fun i wr=>∃ n:Nat,n≤l.length∧i=zW zX n∧Hid (∀ j,j<n→dV l j=true)∧aa [] w wr) (fun i _=>l.length-(intOf i).toNat)
  case atStart=>exact ⟨0,zE _,rfl,fun j hj=>absurd hj (by omega),zN _ _⟩
  obtain ⟨n,hn,rfl,a9,hk⟩:=hrel;by_cases a0:n<l.length
  ·obtain ⟨b,o,rfl,_,hb,a8⟩:=(HR.out.keep hk).open' (by omega) (by omega)
   have d1:=a8 (n*2) _ (al l n a0).1;have d2:=a8 (n*2+1) _ (al l n a0).2;rw[←Nat.add_assoc] at d2;have a7:=HN.out _ (zH a0);have M:dV l n=(fr l[n].name&&(decide (l[n].kind=1)||decide (l[n].kind=2)) && !((l.take n).any fun d=>d.name==l[n].name)):=by unfold dV;rw[zI a0]
   generalize l[n]=x at *;obtain ⟨nm,kd⟩:=x;simp only at d1 d2 a7 M;have aA:=tw nm a7;have O:=fun W (q:aa [] w W) (hx:W.cell? ⟨wr.heap.size,0,none⟩=some (zQ (bs nm)))=>ja 52 #[zS (some ⟨wr.heap.size,0,none⟩)] (enters_of Tryz.func52 (by kernel_rfl) rfl) (fun d=>d.name==nm) (l.take n) (some ⟨b,o,none⟩) c W (kW (HR.out.keep q) (by omega)) (by rw[List.length_take];omega) (fun d hd W2 q2=>pV ⟨nm,kd⟩ d wr.heap.size W2 (q2.cell_of hx (by simp)))
   have a6:(l.take n).length=n:=by rw[List.length_take];omega
   rw[a6] at O;have a5:dV l n=false→Hid (cN l=false):=fun h=>jU a0 h
   have a1:=zx a5;have J:=zx (hk.alloc (zU #[zQ (bs nm),zW zX kd] 109));have bd:n≤c:=by omega
   clear a8 hk a7 a5 a6
   cases a4:fr nm with
   | false =>
    rw[a4] at aA M;have U:=zx aA;have HF:=a1.out (by rw[M];rfl);clear aA O M a4;go_wp2_with (go_at_call 14;refine (U.out _).mono ?_;rintro e w5 ⟨rfl,B⟩)
    go_ret;exact ⟨by rw[HF.out];rfl,J.out.trans B⟩
   | true =>
    rw[a4] at aA M;have U:=zx aA;clear aA a4;by_cases I:kd=1∨kd=2
    ·have D:dV l n= !((l.take n).any fun d=>d.name==nm):=by rw[M];rcases I with rfl|rfl<;>rfl
     clear M
     cases a3:(l.take n).any (fun d=>d.name==nm) with
     | true =>
      rw[a3] at O D;have a2:=zx O;have HF:=a1.out (by rw[D];rfl);clear O D a3;rcases I with rfl|rfl
      ·go_wp2_with (first|(go_at_call 14;refine (U.out _).mono ?_;rintro e w5 ⟨rfl,B⟩;have q0:=B.cell_of (p:=⟨wr.heap.size,0,none⟩) (v:=zQ (bs nm)) (by simp) (by simp);have q1:=B.cell_of (p:=⟨wr.heap.size,1,none⟩) (v:=zW zX 1) (by simp) (by simp))|(go_at_call 51;refine (a2.out _ (J.out.trans B) q0).mono ?_;rintro e w6 ⟨rfl,Z⟩))
       go_ret;exact ⟨by rw[HF.out];rfl,(J.out.trans B).trans Z⟩
      go_wp2_with (first|(go_at_call 14;refine (U.out _).mono ?_;rintro e w5 ⟨rfl,B⟩;have q0:=B.cell_of (p:=⟨wr.heap.size,0,none⟩) (v:=zQ (bs nm)) (by simp) (by simp);have q1:=B.cell_of (p:=⟨wr.heap.size,1,none⟩) (v:=zW zX 2) (by simp) (by simp))|(go_at_call 51;refine (a2.out _ (J.out.trans B) q0).mono ?_;rintro e w6 ⟨rfl,Z⟩))
      go_ret;exact ⟨by rw[HF.out];rfl,(J.out.trans B).trans Z⟩
     | false =>
      rw[a3] at O D;have a2:=zx O;have hno':Hid (∀ j,j<n+1→dV l j=true):=fun j hj=>by
       by_cases h:j<n
       ·exact a9.out j h
       obtain rfl:j=n:=by omega
       rw[D];rfl
      clear O D a3;rcases I with rfl|rfl
      ·go_wp2_with (first|(go_at_call 14;refine (U.out _).mono ?_;rintro e w5 ⟨rfl,B⟩;have q0:=B.cell_of (p:=⟨wr.heap.size,0,none⟩) (v:=zQ (bs nm)) (by simp) (by simp);have q1:=B.cell_of (p:=⟨wr.heap.size,1,none⟩) (v:=zW zX 1) (by simp) (by simp))|(go_at_call 51;refine (a2.out _ (J.out.trans B) q0).mono ?_;rintro e w6 ⟨rfl,Z⟩))
       go_roundw
       case rel=>exact ⟨n+1,by omega,by go_num,hno',(J.out.trans B).trans Z⟩
       case measure=>simp[intOf];omega
      go_wp2_with (first|(go_at_call 14;refine (U.out _).mono ?_;rintro e w5 ⟨rfl,B⟩;have q0:=B.cell_of (p:=⟨wr.heap.size,0,none⟩) (v:=zQ (bs nm)) (by simp) (by simp);have q1:=B.cell_of (p:=⟨wr.heap.size,1,none⟩) (v:=zW zX 2) (by simp) (by simp))|(go_at_call 51;refine (a2.out _ (J.out.trans B) q0).mono ?_;rintro e w6 ⟨rfl,Z⟩))
      go_roundw
      case rel=>exact ⟨n+1,by omega,by go_num,hno',(J.out.trans B).trans Z⟩
      case measure=>simp[intOf];omega
    have ba:(kd != 1)=true:=by rw[bne_iff_ne];exact fun h=>I (.inl h)
    have bb:(kd != 2)=true:=by rw[bne_iff_ne];exact fun h=>I (.inr h)
    have D:dV l n=false:=by rw[M];have h1:kd≠1:=fun h=>I (.inl h);have h2:kd≠2:=fun h=>I (.inr h);simp[h1,h2]
    have HF:=a1.out D;clear M D O I;go_wp2_with (go_at_call 14;refine (U.out _).mono ?_;rintro e w5 ⟨rfl,B⟩;have q1:=B.cell_of (p:=⟨wr.heap.size,1,none⟩) (v:=zW zX kd) (by simp) (by simp))
    go_ret;exact ⟨by rw[HF.out];rfl,J.out.trans B⟩
  have ad:Hid (cN l=true):=by
   unfold cN;have h:=HQ.out;rw[decide_eq_true h.1,decide_eq_true h.2,Bool.and_self,Bool.true_and,List.all_eq_true];intro j hj;exact a9.out j (by have:=List.mem_range.1 hj;omega)
  go_wp2;go_ret;exact ⟨by rw[ad.out];rfl,hk⟩
 have ad:Hid (cN l=false):=by
  unfold cN;have:(decide (1≤l.length)&&decide (l.length≤6))=false:=by
   rw[←Bool.not_eq_true,Bool.and_eq_true,decide_eq_true_iff,decide_eq_true_iff];exact h1
  rw[this,Bool.false_and];exact zx rfl
 by_cases h2:l.length<1
 ·have h2':(l.length:Int)<1:=by omega
  clear h1;go_enter Tryz.func10,Tryz.ntmps10
  go_wp2;go_ret;exact ⟨by rw[ad.out];rfl,zN _ _⟩
 have h2':¬((l.length:Int)<1):=by omega
 have h3':(6:Int)<(l.length:Int):=by omega
 clear h1;go_enter Tryz.func10,Tryz.ntmps10
 go_wp2;go_ret;exact ⟨by rw[ad.out];rfl,zN _ _⟩
def wL (k:Nat) (h:Array Value) (p:Bs→Bool) (l:List Bs) (w:World):Prop :=
 ∀ c∈l,∀ W,aa [] w W→Calls zy k (#[zQ (bs c)]++h) W fun e A=>e=zT (.bool (p c))∧aa [] W A
theorem kZ (k:Nat) (Z:Array Value) (he:∀ args w,(callFunc k args).run zy w= .ok (.enter k args) w) (p:Bs→Bool) (l:List Bs) (A:Option Addr) (c:Nat) (w:World) (hR:Rd w [] 1 A l.length (strs l)) (hl:l.length≤4294967296) (hf:wL k Z p l w) :
  Calls zy 162 #[zR A l.length c,.func (.func k) #[] Z] w fun e w'=>e=zT (zW zX (bS p l))∧aa [] w w':=by
 have HR:=zx hR;have HF:=zx hf;clear hR hf;go_enter Tryz.func162,Tryz.ntmps162
 go_wp2;go_loopw [8] (fun i wr=>∃ n:Nat,n≤l.length∧i=zW zX n∧Hid (∀ j (D:j<n) (hl:j<l.length),p l[j]=false)∧aa [] w wr) (fun i _=>l.length-(intOf i).toNat)
 case atStart=>exact ⟨0,zE _,rfl,fun j D=>absurd D (by omega),zN _ _⟩
 obtain ⟨n,hn,rfl,I,U⟩:=hrel;by_cases J:n<l.length
 ·obtain ⟨b,o,rfl,_,hb,hc⟩:=(HR.out.keep U).open' (by omega) (by omega)
  have d1:=hc n _ (b9 l n J);have HH:=HF.out l[n] (zH J) wr U;generalize hx:l[n]=x at *;have HX:=zx hx;have HH':=zx HH;clear HH hc hx
  cases O:p x with
  | true =>
   have B:bS p l=(n:Int):=fa J (fun j D=>I j D (by omega)) ((congrArg p HX.out).trans O);rw[O] at HH';have HP:=zx B;clear B O;go_wp2_with fail
   refine HH'.out.mono ?_;rintro e W2 ⟨rfl,M⟩;go_wp2;go_ret;exact ⟨by rw[HP.out];rfl,U.trans M⟩
  | false =>
   have hno':Hid (∀ j (D:j<n+1) (hl:j<l.length),p l[j]=false):=fun j D hl=>by
    by_cases h:j<n
    ·exact I j h hl
    obtain rfl:j=n:=by omega
    exact (congrArg p HX.out).trans O
   rw[O] at HH';clear O;go_wp2_with fail
   refine HH'.out.mono ?_;rintro e W2 ⟨rfl,M⟩;go_wp2;go_roundw
   case rel=>exact ⟨n+1,by omega,by go_num,hno',U.trans M⟩
   case measure=>simp[intOf];omega
 have B:Hid (bS p l= -1):=eB fun j D=>I j (by omega) D
 go_wp2;go_ret;exact ⟨by rw[B.out];rfl,U⟩
theorem fy (k:Nat) (h:Array Value) (I:∀ args w,(callFunc k args).run zy w= .ok (.enter k args) w) (p:Bs→Bool) (l:List Bs) (A:Option Addr) (c:Nat) (w:World) (J:Rd w [] 1 A l.length (strs l)) (M:l.length≤4294967296) (D:wL k h p l w) :
  Calls zy 110 #[zR A l.length c,.func (.func k) #[] h] w fun e w'=>e=zT (.bool (l.any p))∧aa [] w w':=by
 have O:=zx (kZ k h I p l A c w J M D);clear J D I;rw[←gp];go_enter Tryz.func110,Tryz.ntmps110
 go_wp2_with (go_at_call 162;refine O.out.mono ?_;rintro e U ⟨rfl,B⟩)
 go_ret;exact ⟨rfl,B⟩
theorem rL (v:Bs) (l:List Bs) (A:Option Addr) (c:Nat) (w:World) (U:Rd w [] 1 A l.length (strs l)) (M:l.length≤4294967296) :
  Calls zy 70 #[zR A l.length c,zQ (bs v)] w fun e w'=>e=zT (zW zX (bS (fun t=>v==t) l))∧w=w':=by
 have HR:=zx U;clear U;go_enter Tryz.func70,Tryz.ntmps70
 go_wp2;go_loop [8] (fun i=>∃ n:Nat,n≤l.length∧i=zW zX n∧Hid (∀ j (D:j<n) (M:j<l.length),(v==l[j])=false)) (fun i=>l.length-(intOf i).toNat)
 case atStart=>exact ⟨0,zE _,rfl,fun j D=>absurd D (by omega)⟩
 obtain ⟨n,hn,rfl,I⟩:=hrel;by_cases J:n<l.length
 ·obtain ⟨b,o,rfl,_,hb,Z⟩:=HR.out.open' (by omega) (by omega)
  have d1:=Z n _ (b9 l n J);clear Z
  cases O:(v==l[n]) with
  | true =>
   have B:bS (fun t=>v==t) l=(n:Int):=fa J (fun j D=>I j D (by omega)) O;have HP:=zx B;clear B;go_wp2;go_ret;exact ⟨by rw[HP.out];rfl,rfl⟩
  | false =>
   have hno':Hid (∀ j (D:j<n+1) (M:j<l.length),(v==l[j])=false):=fun j D M=>by
    by_cases h:j<n
    ·exact I j h M
    obtain rfl:j=n:=by omega
    exact O
   go_wp2;go_round
   case rel=>exact ⟨n+1,by omega,by go_num,hno'⟩
   case measure=>simp[intOf];omega
 have B:Hid (bS (fun t=>v==t) l= -1):=eB fun j D=>I j (by omega) D
 go_wp2;go_ret;exact ⟨by rw[B.out];rfl,rfl⟩
theorem nW (v:Bs) (l:List Bs) (A:Option Addr) (c:Nat) (w:World) (h:Rd w [] 1 A l.length (strs l)) (D:l.length≤4294967296) :
  Calls zy 131 #[zR A l.length c,zQ (bs v)] w fun e w'=>e=zT (.bool (l.any fun t=>v==t))∧w=w':=by
 have B:=zx (rL v l A c w h D);clear h;rw[←gp];go_enter Tryz.func131,Tryz.ntmps131
 go_wp2_with (go_at_call 70;refine B.out.mono ?_;rintro e I ⟨rfl,rfl⟩)
 go_ret;exact ⟨rfl,rfl⟩
theorem uY (l:List Int) (k:Nat) (h:k<l.length):(l.map (Value.int .i64))[k]? = some (zW zX l[k]):=by simp[h]
theorem rM (v:Int) (l:List Int) (A:Option Addr) (c:Nat) (w:World) (U:Rd w [] 1 A l.length (l.map (Value.int .i64))) (M:l.length≤4294967296) :
  Calls zy 161 #[zR A l.length c,zW zX v] w fun e w'=>e=zT (zW zX (bS (fun t=>v==t) l))∧w=w':=by
 have HR:=zx U;clear U;go_enter Tryz.func161,Tryz.ntmps161
 go_wp2;go_loop [8] (fun i=>∃ n:Nat,n≤l.length∧i=zW zX n∧Hid (∀ j (D:j<n) (M:j<l.length),(v==l[j])=false)) (fun i=>l.length-(intOf i).toNat)
 case atStart=>exact ⟨0,zE _,rfl,fun j D=>absurd D (by omega)⟩
 obtain ⟨n,hn,rfl,I⟩:=hrel;by_cases J:n<l.length
 ·obtain ⟨b,o,rfl,_,hb,Z⟩:=HR.out.open' (by omega) (by omega)
  have d1:=Z n _ (uY l n J);clear Z
  cases O:(v==l[n]) with
  | true =>
   have B:bS (fun t=>v==t) l=(n:Int):=fa J (fun j D=>I j D (by omega)) O;have HP:=zx B;clear B;go_wp2;go_ret;exact ⟨by rw[HP.out];rfl,rfl⟩
  | false =>
   have hno':Hid (∀ j (D:j<n+1) (M:j<l.length),(v==l[j])=false):=fun j D M=>by
    by_cases h:j<n
    ·exact I j h M
    obtain rfl:j=n:=by omega
    exact O
   go_wp2;go_round
   case rel=>exact ⟨n+1,by omega,by go_num,hno'⟩
   case measure=>simp[intOf];omega
 have B:Hid (bS (fun t=>v==t) l= -1):=eB fun j D=>I j (by omega) D
 go_wp2;go_ret;exact ⟨by rw[B.out];rfl,rfl⟩
theorem je (v:Int) (l:List Int) (A:Option Addr) (c:Nat) (w:World) (h:Rd w [] 1 A l.length (l.map (Value.int .i64))) (D:l.length≤4294967296) :
  Calls zy 109 #[zR A l.length c,zW zX v] w fun e w'=>e=zT (.bool (l.any fun t=>v==t))∧w=w':=by
 have B:=zx (rM v l A c w h D);clear h;rw[←gp];go_enter Tryz.func109,Tryz.ntmps109
 go_wp2_with (go_at_call 161;refine B.out.mono ?_;rintro e I ⟨rfl,rfl⟩)
 go_ret;exact ⟨rfl,rfl⟩
end
section
open Go.RowKit Go.BigFrame
attribute [local go_sem] ag ab ae af
attribute [local go_sem] KW.cell
def yv (a:Ar):Value:= .agg #[zQ (bs a.col),zW zX a.val.kind,zW zX a.val.num,zQ (bs a.val.word)]
def aI:Option Nat→Int
 | some i=>(i:Int)
 | none=> -1
theorem jW (l:List Cl) (nm:Bs):du (fun c=>c.name==nm) l=aI (aw l nm):=by
 unfold du aw aI;split<;>rename_i h<;>first|rfl|rw[h]
theorem pZ (nm:Bs) (d:Cl) (b:Nat) (w:World) (A:w.cell? ⟨b,0,none⟩=some (zQ (bs nm))) :
  Calls zy 183 #[wV d,zS (some ⟨b,0,none⟩)] w fun e w'=>e=zT (.bool (d.name==nm))∧aa [] w w':=by
 have B:=zB _ _ A;have hb':(w.alloc (zU #[zQ (bs d.name),zW zX d.kind] 109)).cell? ⟨b,0,none⟩=some (zQ (bs nm)):=((zN [] w).alloc _).cell_of A (by simp);have h:aa [] w (w.alloc (zU #[zQ (bs d.name),zW zX d.kind] 109)):=(zN [] w).alloc _;have D:=zx h;clear h;show Calls _ _ #[.agg #[zQ (bs d.name),zW zX d.kind],zS (some ⟨b,0,none⟩)] w _;go_enter Tryz.func183,Tryz.ntmps183
 go_wp2;go_ret;exact ⟨rfl,D.out⟩
theorem eC (l:List Cl) (nm:Bs) (A:Option Addr) (c:Nat) (w:World) (I:Rd w [] 2 A l.length (ah l)) (M:l.length≤4294967296) :
  Calls zy 132 #[zR A l.length c,zQ (bs nm)] w fun e w'=>e=zT (zW zX (aI (aw l nm)))∧aa [] w w':=by
 have D:aa [] w (w.alloc (zU #[zQ (bs nm)] 9)):=(zN [] w).alloc _;have J:(w.alloc (zU #[zQ (bs nm)] 9)).cell? ⟨w.heap.size,0,none⟩=some (zQ (bs nm)):=(zO _ _ _).cell 0;have h:=gQ 183 #[zS (some ⟨w.heap.size,0,none⟩)] (enters_of Tryz.func183 (by kernel_rfl) rfl) (fun c=>c.name==nm) l A c (w.alloc (zU #[zQ (bs nm)] 9)) (I.keep D) M (fun d _ W q=>pZ nm d _ W (q.cell_of J (by simp)));rw[jW] at h;have H:=zx h;have O:=zx D;clear h D J I;generalize aI (aw l nm)=r at *;go_enter Tryz.func132,Tryz.ntmps132
 go_wp2_with fail
 refine H.out.mono ?_;rintro e w2 ⟨rfl,B⟩;go_wp2;go_ret;exact ⟨rfl,O.out.trans B⟩
theorem yw (b:Vl) (W:World):(binOp .neq 27 (.agg #[zW zX b.kind,zW zX b.num,zQ (bs b.word)]) (.agg #[zW zX 0,zW zX 0,zQ ⟨#[]⟩])).run zy W= .ok (.bool (!decide (b=zV))) W:=za b zV W
theorem li (a:Ar) (l:List Cl) (A:Option Addr) (c:Nat) (w:World) (hA:Rd w [] 2 A l.length (ah l)) (hl:l.length≤4294967296) :
  Calls zy 133 #[yv a,zR A l.length c] w fun e w'=>e=zT (zW zX (bL a l))∧aa [] w w':=by
 obtain ⟨nm,v⟩:=a;show Calls _ _ #[.agg #[zQ (bs nm),zW zX v.kind,zW zX v.num,zQ (bs v.word)],zR A l.length c] w _;have a0:aa [] w (w.alloc (zU #[zQ (bs nm),zW zX v.kind,zW zX v.num,zQ (bs v.word)] 57)):=(zN [] w).alloc _;have D:=zx a0;have O:=zx (fun W=>dY v W);have HF:=zx (fun W (q:aa [] w W)=>eC l nm A c W (hA.keep q) hl);have HA:=zx hA;obtain ⟨R,hR⟩:∃ R,bL ⟨nm,v⟩ l=R:=⟨_,rfl⟩
 rw[hR];have HR:=zx hR;clear a0 hA hR
 cases nm with
 | nil =>
  have B:Hid (R=if mf v then v.kind else 0):=zx (by rw[←HR.out];unfold bL;rw[if_pos rfl]);clear HR
  cases hr:mf v with
  | false =>
   rw[hr] at O B;clear hr;go_enter Tryz.func133,Tryz.ntmps133
   go_wp2_with fail
   refine (O.out _).mono ?_;rintro e w2 ⟨rfl,h⟩;go_wp2;go_ret;exact ⟨by rw[B.out];rfl,D.out.trans h⟩
  | true =>
   rw[hr] at O B;clear hr;go_enter Tryz.func133,Tryz.ntmps133
   go_wp2_with fail
   refine (O.out _).mono ?_;rintro e w2 ⟨rfl,h⟩;have c1:=h.cell_of (p:=⟨w.heap.size,1,none⟩) (v:=zW zX v.kind) ((zO _ _ _).cell 1) (by simp);have I:=zx (D.out.trans h);clear h;go_wp2;go_ret;exact ⟨by rw[B.out];rfl,I.out⟩
 | cons x t =>
  have J:R=match aw l (x::t) with|none=>0|some k=>if v=zV then (l.getD k zC).kind else 0:=by
   rw[←HR.out];unfold bL;rw[if_neg (by simp)];cases aw l (x::t)<;>rfl
  clear HR
  cases M:aw l (x::t) with
  | none =>
   rw[M] at HF J;have B:Hid (R=0):=zx J;clear J;go_enter Tryz.func133,Tryz.ntmps133
   go_wp2_with fail
   refine (HF.out _ D.out).mono ?_;rintro e w2 ⟨rfl,h⟩;have I:=zx (D.out.trans h);clear h;show _;simp only[aI];go_wp2;go_ret;exact ⟨by rw[B.out];rfl,I.out⟩
  | some k =>
   rw[M] at HF J;have aA:k<l.length:=(List.findIdx?_eq_some_iff_getElem.1 M).1;have ad:l.getD k zC=l[k]:=by rw[zM,zI aA];rfl
   obtain ⟨b,o,a2,_,hb,a1⟩:=HA.out.open' (by omega) (by omega);subst a2;have d1:=a1 (k*2+1) _ (al l k aA).2;rw[←Nat.add_assoc] at d1;have a5:((k:Int)<0)=False:=eq_false (by omega);have a3:(0:Int)≤(k:Int):=by omega
   have a4:(k:Int)<(l.length:Int):=by omega
   have hq:=yw v;have Z:R=if v=zV then (l.getD k zC).kind else 0:=J
   rw[ad] at Z;have B:=zx Z;clear J Z;generalize l[k]=cc at *;clear M a1 ad;by_cases hz:v=zV
   ·rw[decide_eq_true hz] at hq
    have U:Hid (R=cc.kind):=zx (by rw[B.out,if_pos hz]);clear hz B;go_enter Tryz.func133,Tryz.ntmps133
    go_wp2_with fail
    refine (HF.out _ D.out).mono ?_;rintro e w2 ⟨rfl,h⟩;simp only[aI];have c1:=h.cell_of (p:=⟨w.heap.size,1,none⟩) (v:=zW zX v.kind) ((zO _ _ _).cell 1) (by simp);have c2:=h.cell_of (p:=⟨w.heap.size,2,none⟩) (v:=zW zX v.num) ((zO _ _ _).cell 2) (by simp);have c3:=h.cell_of (p:=⟨w.heap.size,3,none⟩) (v:=zQ (bs v.word)) ((zO _ _ _).cell 3) (by simp);have d2:=(D.out.trans h).cell_of d1 (by simp);have I:=zx (D.out.trans h);clear h;go_wp2;go_ret;exact ⟨by rw[U.out];rfl,I.out⟩
   rw[decide_eq_false hz] at hq;have U:Hid (R=0):=zx (by rw[B.out,if_neg hz]);clear hz B;go_enter Tryz.func133,Tryz.ntmps133
   go_wp2_with fail
   refine (HF.out _ D.out).mono ?_;rintro e w2 ⟨rfl,h⟩;simp only[aI];have c1:=h.cell_of (p:=⟨w.heap.size,1,none⟩) (v:=zW zX v.kind) ((zO _ _ _).cell 1) (by simp);have c2:=h.cell_of (p:=⟨w.heap.size,2,none⟩) (v:=zW zX v.num) ((zO _ _ _).cell 2) (by simp);have c3:=h.cell_of (p:=⟨w.heap.size,3,none⟩) (v:=zQ (bs v.word)) ((zO _ _ _).cell 3) (by simp);have I:=zx (D.out.trans h);clear h;go_wp2;go_ret;exact ⟨by rw[U.out];rfl,I.out⟩
theorem df (code:Int) (w:World):Calls zy 31 #[zW zX code] w fun e w'=>e=zT (.tuple #[zW zX ((aF code).1:Int),zW zX ((aF code).2:Int)])∧w=w':=by
 obtain ⟨R,hR⟩:∃ R,aF code=R:=⟨_,rfl⟩
 rw[hR];have h:=zx hR;clear hR;by_cases M:code=5
 ·subst M
  have A:Hid (R=(2,1)):=zx (h.out.symm.trans (by decide));clear h;go_enter Tryz.func31,Tryz.ntmps31
  go_wp2;go_ret2;exact ⟨by rw[A.out];rfl,rfl⟩
 have t5:(code==5)=false:=by rw[beq_eq_false_iff_ne];exact M
 by_cases I:code=7
 ·subst I
  have A:Hid (R=(2,1)):=zx (h.out.symm.trans (by decide));clear h;go_enter Tryz.func31,Tryz.ntmps31
  go_wp2;go_ret2;exact ⟨by rw[A.out];rfl,rfl⟩
 have t7:(code==7)=false:=by rw[beq_eq_false_iff_ne];exact I
 by_cases h9:code=9
 ·subst h9
  have A:Hid (R=(1,2)):=zx (h.out.symm.trans (by decide));clear h;go_enter Tryz.func31,Tryz.ntmps31
  go_wp2;go_ret2;exact ⟨by rw[A.out];rfl,rfl⟩
 have t9:(code==9)=false:=by rw[beq_eq_false_iff_ne];exact h9
 by_cases J:code=1
 ·subst J
  have A:Hid (R=(1,1)):=zx (h.out.symm.trans (by decide));clear h;go_enter Tryz.func31,Tryz.ntmps31
  go_wp2;go_ret2;exact ⟨by rw[A.out];rfl,rfl⟩
 have t1:(code==1)=false:=by rw[beq_eq_false_iff_ne];exact J
 by_cases B:code=2
 ·subst B
  have A:Hid (R=(1,1)):=zx (h.out.symm.trans (by decide));clear h;go_enter Tryz.func31,Tryz.ntmps31
  go_wp2;go_ret2;exact ⟨by rw[A.out];rfl,rfl⟩
 have t2:(code==2)=false:=by rw[beq_eq_false_iff_ne];exact B
 by_cases U:code=3
 ·subst U
  have A:Hid (R=(1,1)):=zx (h.out.symm.trans (by decide));clear h;go_enter Tryz.func31,Tryz.ntmps31
  go_wp2;go_ret2;exact ⟨by rw[A.out];rfl,rfl⟩
 have t3:(code==3)=false:=by rw[beq_eq_false_iff_ne];exact U
 by_cases D:code=4
 ·subst D
  have A:Hid (R=(1,1)):=zx (h.out.symm.trans (by decide));clear h;go_enter Tryz.func31,Tryz.ntmps31
  go_wp2;go_ret2;exact ⟨by rw[A.out];rfl,rfl⟩
 have t4:(code==4)=false:=by rw[beq_eq_false_iff_ne];exact D
 by_cases Z:code=6
 ·subst Z
  have A:Hid (R=(1,1)):=zx (h.out.symm.trans (by decide));clear h;go_enter Tryz.func31,Tryz.ntmps31
  go_wp2;go_ret2;exact ⟨by rw[A.out];rfl,rfl⟩
 have t6:(code==6)=false:=by rw[beq_eq_false_iff_ne];exact Z
 by_cases O:code=8
 ·subst O
  have A:Hid (R=(1,1)):=zx (h.out.symm.trans (by decide));clear h;go_enter Tryz.func31,Tryz.ntmps31
  go_wp2;go_ret2;exact ⟨by rw[A.out];rfl,rfl⟩
 have t8:(code==8)=false:=by rw[beq_eq_false_iff_ne];exact O
 have A:Hid (R=(0,0)):=zx (h.out.symm.trans (by unfold aF;rw[if_neg (by omega),if_neg (by omega),if_neg (by omega)]));clear h M I h9 J B U D Z O;go_enter Tryz.func31,Tryz.ntmps31
 go_wp2;go_ret2;exact ⟨by rw[A.out];rfl,rfl⟩
def gG (j:Jb) (J:Option Addr) (I:Nat) (h:Option Addr) (A B:Nat) (D:Option Addr) (cc:Nat):Value :=
 .agg #[zW zX j.at_,zW zX j.code,zR J j.outs.length I,zR h A B,zR D j.cols.length cc,zQ (bs j.op),zQ (bs j.left.col),zW zX j.left.val.kind,zW zX j.left.val.num,zQ (bs j.left.val.word),zQ (bs j.right.col),zW zX j.right.val.kind,zW zX j.right.val.num,zQ (bs j.right.val.word),zW zX j.retry]
structure fd (w:World) (j:Jb) (Ao:Option Addr) (co:Nat) (Ac:Option Addr) (cc:Nat):Prop where
 outs:Rd w [] 1 Ao j.outs.length (strs j.outs)
 oc:j.outs.length≤co
 cols:Rd w [] 1 Ac j.cols.length (strs j.cols)
 cc:j.cols.length≤cc
 lo:j.outs.length≤4294967296
 lc:j.cols.length≤4294967296
theorem fd.quiet {w w':World} {j:Jb} {I:Option Addr} {D:Nat} {B:Option Addr} {cc:Nat} (h:fd w j I D B cc) (A:aa [] w w'):fd w' j I D B cc:=⟨h.outs.keep A,h.oc,h.cols.keep A,h.cc,h.lo,h.lc⟩
def nX (w:World) (u:Value) (l:List Cl):Prop:=∃ A c,u=zR A l.length c∧l.length≤c∧Rd w [] 2 A l.length (ah l)
def aW (w:World) (A:Option Addr) (D:List (List Cl)):Prop :=
 ∃ B:List Value,B.length=D.length∧Rd w [] 1 A D.length B∧∀ i (h:i<B.length) (h':i<D.length),nX w B[i] D[i]
theorem nX.keep {w w':World} {u:Value} {l:List Cl} (h:nX w u l) (B:aa [] w w'):nX w' u l:=by
 obtain ⟨A,c,e,D,h⟩:=h;exact ⟨A,c,e,D,h.keep B⟩
theorem aW.keep {w w':World} {A:Option Addr} {D:List (List Cl)} (h:aW w A D) (B:aa [] w w'):aW w' A D:=by
 obtain ⟨I,M,J,O⟩:=h;exact ⟨I,M,J.keep B,fun i a b=>(O i a b).keep B⟩
def aP (R:Except Int (List (List Cl))) (e:Ending) (w':World):Prop:=match R with
 | .error x=>e=zT (.tuple #[zR none 0 0,.iface 34 (zW zX x)])
 | .ok out=>∃ B d,e=zT (.tuple #[zR B out.length d,.nilIface])∧out.length≤d∧aW w' B out
theorem cU {w:World} {l:List Cl} {A:Option Addr} {c:Nat} (J:Rd w [] 2 A l.length (ah l)) (I:l.length≤c) (t:TypeId):aW (w.alloc (zU #[zR A l.length c] t)) (some ⟨w.heap.size,0,none⟩) [l]:=by
 have B:aa [] w (w.alloc (zU #[zR A l.length c] t)):=(zN _ _).alloc _;refine ⟨[zR A l.length c],rfl,⟨rfl,fun _=>⟨_,rfl,by simp,(zO _ _ _).lt,fun j u D=>?_⟩⟩,fun i h h'=>?_⟩
 ·rw[dU,Nat.zero_add]
  have:=(zO w t #[zR A l.length c]).cell j;rw[this];simpa using D
 have M:i=0:=by simp at h;omega
 subst M;exact ⟨A,c,rfl,I,J.keep B⟩
theorem jh (l:List Bs) (x:Bs) (A:Option Addr) (c:Nat) (w:World) (I:Rd w [] 1 A l.length (strs l)) (Z:l.length≤4294967296) :
  Calls zy 131 #[zR A l.length c,zQ (bs x)] w fun e w'=>e=zT (.bool (decide (x∈l)))∧w=w':=by
 by_cases D:l.length=0
 ·have B:l=[]:=List.eq_nil_of_length_eq_zero D
  subst B;refine (Tryz.slices_Contains_string_empty A c (bs x) w).mono ?_;rintro e w' ⟨rfl,rfl⟩;exact ⟨rfl,rfl⟩
 obtain ⟨b,o,rfl,_,_,U⟩:=I.open' (by omega) (by decide);refine (Tryz.slices_Contains_string b o l.length c (l.map bs) (bs x) w (by simp) (by omega) (fun j M=>?_)).mono ?_
 ·have hj':j<l.length:=by simpa using M
  rw[U j _ (b9 l j hj'),zM,List.getElem?_map,zI hj'];rfl
 rintro e w' ⟨rfl,rfl⟩;refine ⟨congrArg (fun b=>Ending.returned (.bool b)) ?_,rfl⟩;rw[List.take_of_length_le (by simp)];rw[Bool.eq_iff_iff,Lib.containsS_iff,decide_eq_true_iff,List.mem_map];constructor
 ·rintro ⟨y,J,O⟩;rw[←tf O];exact J
 intro h;exact ⟨x,h,rfl⟩
theorem u5 (j:Jb) (a:List Cl) (Ao:Option Addr) (co:Nat) (Ai:Option Addr) (ni ci:Nat) (Ac:Option Addr) (cc:Nat) (A:Option Addr) (c:Nat) (w:World) (hJ:fd w j Ao co Ac cc) (hA:Rd w [] 2 A a.length (ah a)) (hc:a.length≤c) (hl:a.length≤4294967296) :
  Calls zy 83 #[gG j Ao co Ai ni ci Ac cc,zR A a.length c] w fun e w'=>aP (iU j a) e w'∧aa [] w w':=by
 have bm:=zx (fun (nm:Bs) W (q:aa [] w W)=>eC a nm A c W (hA.keep q) hl);have bn:=zx (fun W (q:aa [] w W)=>li j.left a A c W (hA.keep q) hl);have bo:=zx (fun W (q:aa [] w W)=>li j.right a A c W (hA.keep q) hl);have HA:=zx hA;have HJ:=zx hJ.cols;obtain ⟨R,hR⟩:∃ R,iU j a=R:=⟨_,rfl⟩
 rw[hR]
 have HR:Hid (R=if j.cols.length≠1∨¬(j.op=[43]∨j.op=[45]∨j.op=[42]) then .error 1 else match aw a (j.cols.headD []) with
  | none=> .error 7
  | some k=>if (a.getD k zC).kind≠1∨bL j.left a≠1∨bL j.right a≠1 then .error 13 else .ok [a]):=zx (by
  rw[←hR];unfold iU;split
  ·rfl
  cases aw a (j.cols.headD [])<;>rfl)
 clear hR hJ hA;generalize a9:bL j.left a=KL at *;generalize bA:bL j.right a=KR at *;clear a9 bA;obtain ⟨at_,code,outs,ins,cols,op,⟨lc,lk,ln,lw⟩,⟨rc,rk,rn,a7⟩,bb⟩:=j;simp only at HR HJ;show Calls _ _ #[.agg #[zW zX at_,zW zX code,zR Ao outs.length co,zR Ai ni ci,zR Ac cols.length cc,zQ (bs op),zQ (bs lc),zW zX lk,zW zX ln,zQ (bs lw),zQ (bs rc),zW zX rk,zW zX rn,zQ (bs a7),zW zX bb],zR A a.length c] w _;have HKL':Hid (∀ W,aa [] w W→Calls zy 133 #[.agg #[zQ (bs lc),zW zX lk,zW zX ln,zQ (bs lw)],zR A a.length c] W fun e W'=>e=zT (zW zX KL)∧aa [] W W'):=bn;have HKR':Hid (∀ W,aa [] w W→Calls zy 133 #[.agg #[zQ (bs rc),zW zX rk,zW zX rn,zQ (bs a7)],zR A a.length c] W fun e W'=>e=zT (zW zX KR)∧aa [] W W'):=bo;clear bn bo;by_cases h1:cols.length=1
 ·have t0:((cols.length:Int) != 1)=false:=by rw[h1];rfl
  obtain ⟨nm,b5⟩:∃ nm,cols=[nm]:=by
   match cols,h1 with
   | [nm],_=>exact ⟨nm,rfl⟩
  subst b5;obtain ⟨b,o,rfl,_,hb,a4⟩:=HJ.out.open' (by simp) (by decide);have d0:w.cell? ⟨b,o,none⟩=some (zQ (bs nm)):=a4 0 _ rfl;have HF:=zx (bm.out nm);clear a4 bm h1 HJ;by_cases U:op=[43]∨op=[45]∨op=[42]
  ·have J:Hid (R=match aw a nm with
    | none=> .error 7
    | some k=>if (a.getD k zC).kind≠1∨KL≠1∨KR≠1 then .error 13 else .ok [a]):=zx (HR.out.trans (by
     rw[if_neg (by
      rintro (h|h)
      ·exact h rfl
      exact h U)]
     show (match aw a nm with|none=>_|some k=>_)=_;cases aw a nm<;>rfl))
   clear HR;have b0:∃ b1 b2 b3,(op==[43])=b1∧(op==[45])=b2∧(op==[42])=b3∧(b1=true∨b2=true∨b3=true):=⟨_,_,_,rfl,rfl,rfl,by simpa using U⟩
   obtain ⟨b1,b2,b3,t1,t2,t3,bl⟩:=b0;clear U;have bq:(b1=true)∨(b1=false∧b2=true)∨(b1=false∧b2=false∧b3=true):=by
    cases b1<;>cases b2<;>cases b3<;>simp at bl ⊢
   clear bl;rcases bq with rfl|⟨rfl,rfl⟩|⟨rfl,rfl,rfl⟩
   all_goals
    cases a5:aw a nm with
    | none =>
     rw[a5] at HF J;have M:Hid (R= .error 7):=J;clear J a5;go_enter Tryz.func83,Tryz.ntmps83
     go_wp2_with fail
     refine (HF.out _ ((zN _ _).alloc _)).mono ?_;rintro e w2 ⟨rfl,B⟩;simp only[aI];go_wp2;go_ret2;exact ⟨by rw[M.out];rfl,((zN _ _).alloc _).trans B⟩
    | some k =>
     rw[a5] at HF J;have a9:k<a.length:=(List.findIdx?_eq_some_iff_getElem.1 a5).1;have bj:a.getD k zC=a[k]:=by rw[zM,zI a9];rfl
     obtain ⟨b4,o4,bB,_,ch,a4⟩:=HA.out.open' (by omega) (by omega);subst bB;have d1:=a4 (k*2+1) _ (al a k a9).2;rw[←Nat.add_assoc] at d1;have a8:=zx d1;have cg:((k:Int)<0)=False:=eq_false (by omega);have cf:(0:Int)≤(k:Int):=by omega
     have b7:(k:Int)<(a.length:Int):=by omega
     have bk:R=if a[k].kind≠1∨KL≠1∨KR≠1 then .error 13 else .ok [a]:=by rw[←bj];exact J.out
     have M:=zx bk;clear bk J a5 bj a4;generalize a[k].kind=kk at *;clear d1;by_cases O:kk=1
     ·have s1:(kk != 1)=false:=by rw[O];rfl
      by_cases ad:KL=1
      ·have s2:(KL != 1)=false:=by rw[ad];rfl
       by_cases a0:KR=1
       ·have s3:(KR != 1)=false:=by rw[a0];rfl
        have Z:Hid (R= .ok [a]):=zx (by rw[M.out,if_neg (by rintro (h|h|h);exact h O;exact h ad;exact h a0)]);clear M O ad a0;go_enter Tryz.func83,Tryz.ntmps83
        go_wp2_with fail
        refine (HF.out _ ((zN _ _).alloc _)).mono ?_;rintro e w2 ⟨rfl,B⟩;simp only[aI];have D:=zx ((((zN [] w).alloc _).trans B));have x1:=D.out.cell_of a8.out (by simp);have y6:=B.cell_of (p:=⟨w.heap.size,6,none⟩) (v:=zQ (bs lc)) ((zO _ _ _).cell 6) (by simp);have y7:=B.cell_of (p:=⟨w.heap.size,7,none⟩) (v:=zW zX lk) ((zO _ _ _).cell 7) (by simp);have y8:=B.cell_of (p:=⟨w.heap.size,8,none⟩) (v:=zW zX ln) ((zO _ _ _).cell 8) (by simp);have y9:=B.cell_of (p:=⟨w.heap.size,9,none⟩) (v:=zQ (bs lw)) ((zO _ _ _).cell 9) (by simp);have a1:=B.cell_of (p:=⟨w.heap.size,10,none⟩) (v:=zQ (bs rc)) ((zO _ _ _).cell 10) (by simp);have a3:=B.cell_of (p:=⟨w.heap.size,11,none⟩) (v:=zW zX rk) ((zO _ _ _).cell 11) (by simp);have a2:=B.cell_of (p:=⟨w.heap.size,12,none⟩) (v:=zW zX rn) ((zO _ _ _).cell 12) (by simp);have a6:=B.cell_of (p:=⟨w.heap.size,13,none⟩) (v:=zQ (bs a7)) ((zO _ _ _).cell 13) (by simp);go_wp2_with fail
        refine (HKL'.out _ D.out).mono ?_;rintro e w3 ⟨rfl,I⟩;have aA:=zx (D.out.trans I);replace a1:=I.cell_of a1 (by simp);replace a3:=I.cell_of a3 (by simp);replace a2:=I.cell_of a2 (by simp);replace a6:=I.cell_of a6 (by simp);go_wp2_with fail
        refine (HKR'.out _ aA.out).mono ?_;rintro e w4 ⟨rfl,bd⟩;have ba:=zx (aA.out.trans bd);have b6:=zx (cU (HA.out.keep ba.out) hc 22);go_wp2;go_ret2;exact ⟨by rw[Z.out];exact ⟨_,_,rfl,zz _,b6.out⟩,ba.out.alloc _⟩
       have s3:(KR != 1)=true:=by rw[bne_iff_ne];exact a0
       have Z:Hid (R= .error 13):=zx (by rw[M.out,if_pos (.inr (.inr a0))]);clear M O ad a0;go_enter Tryz.func83,Tryz.ntmps83
       go_wp2_with fail
       refine (HF.out _ ((zN _ _).alloc _)).mono ?_;rintro e w2 ⟨rfl,B⟩;simp only[aI];have D:=zx ((((zN [] w).alloc _).trans B));have x1:=D.out.cell_of a8.out (by simp);have y6:=B.cell_of (p:=⟨w.heap.size,6,none⟩) (v:=zQ (bs lc)) ((zO _ _ _).cell 6) (by simp);have y7:=B.cell_of (p:=⟨w.heap.size,7,none⟩) (v:=zW zX lk) ((zO _ _ _).cell 7) (by simp);have y8:=B.cell_of (p:=⟨w.heap.size,8,none⟩) (v:=zW zX ln) ((zO _ _ _).cell 8) (by simp);have y9:=B.cell_of (p:=⟨w.heap.size,9,none⟩) (v:=zQ (bs lw)) ((zO _ _ _).cell 9) (by simp);have a1:=B.cell_of (p:=⟨w.heap.size,10,none⟩) (v:=zQ (bs rc)) ((zO _ _ _).cell 10) (by simp);have a3:=B.cell_of (p:=⟨w.heap.size,11,none⟩) (v:=zW zX rk) ((zO _ _ _).cell 11) (by simp);have a2:=B.cell_of (p:=⟨w.heap.size,12,none⟩) (v:=zW zX rn) ((zO _ _ _).cell 12) (by simp);have a6:=B.cell_of (p:=⟨w.heap.size,13,none⟩) (v:=zQ (bs a7)) ((zO _ _ _).cell 13) (by simp);go_wp2_with fail
       refine (HKL'.out _ D.out).mono ?_;rintro e w3 ⟨rfl,I⟩;have aA:=zx (D.out.trans I);replace a1:=I.cell_of a1 (by simp);replace a3:=I.cell_of a3 (by simp);replace a2:=I.cell_of a2 (by simp);replace a6:=I.cell_of a6 (by simp);go_wp2_with fail
       refine (HKR'.out _ aA.out).mono ?_;rintro e w4 ⟨rfl,bd⟩;have ba:=zx (aA.out.trans bd);go_wp2;go_ret2;exact ⟨by rw[Z.out];rfl,ba.out⟩
      have s2:(KL != 1)=true:=by rw[bne_iff_ne];exact ad
      have Z:Hid (R= .error 13):=zx (by rw[M.out,if_pos (.inr (.inl ad))]);clear M O ad;go_enter Tryz.func83,Tryz.ntmps83
      go_wp2_with fail
      refine (HF.out _ ((zN _ _).alloc _)).mono ?_;rintro e w2 ⟨rfl,B⟩;simp only[aI];have D:=zx ((((zN [] w).alloc _).trans B));have x1:=D.out.cell_of a8.out (by simp);have y6:=B.cell_of (p:=⟨w.heap.size,6,none⟩) (v:=zQ (bs lc)) ((zO _ _ _).cell 6) (by simp);have y7:=B.cell_of (p:=⟨w.heap.size,7,none⟩) (v:=zW zX lk) ((zO _ _ _).cell 7) (by simp);have y8:=B.cell_of (p:=⟨w.heap.size,8,none⟩) (v:=zW zX ln) ((zO _ _ _).cell 8) (by simp);have y9:=B.cell_of (p:=⟨w.heap.size,9,none⟩) (v:=zQ (bs lw)) ((zO _ _ _).cell 9) (by simp);go_wp2_with fail
      refine (HKL'.out _ D.out).mono ?_;rintro e w3 ⟨rfl,I⟩;have aA:=zx (D.out.trans I);go_wp2;go_ret2;exact ⟨by rw[Z.out];rfl,aA.out⟩
     have s1:(kk != 1)=true:=by rw[bne_iff_ne];exact O
     have Z:Hid (R= .error 13):=zx (by rw[M.out,if_pos (.inl O)]);clear M O;go_enter Tryz.func83,Tryz.ntmps83
     go_wp2_with fail
     refine (HF.out _ ((zN _ _).alloc _)).mono ?_;rintro e w2 ⟨rfl,B⟩;simp only[aI];have D:=zx ((((zN [] w).alloc _).trans B));have x1:=D.out.cell_of a8.out (by simp);go_wp2;go_ret2;exact ⟨by rw[Z.out];rfl,D.out⟩
  have J:Hid (R= .error 1):=zx (by rw[HR.out,if_pos (.inr U)]);have t1:(op==[43])=false:=by rw[beq_eq_false_iff_ne];exact fun h=>U (.inl h)
  have t2:(op==[45])=false:=by rw[beq_eq_false_iff_ne];exact fun h=>U (.inr (.inl h))
  have t3:(op==[42])=false:=by rw[beq_eq_false_iff_ne];exact fun h=>U (.inr (.inr h))
  clear HR U;go_enter Tryz.func83,Tryz.ntmps83
  go_wp2;go_ret2;exact ⟨by rw[J.out];rfl,(zN _ _).alloc _⟩
 have t0:((cols.length:Int) != 1)=true:=by rw[bne_iff_ne];omega
 have J:Hid (R= .error 1):=zx (by rw[HR.out,if_pos (.inl h1)]);clear HR h1;go_enter Tryz.func83,Tryz.ntmps83
 go_wp2;go_ret2;exact ⟨by rw[J.out];rfl,(zN _ _).alloc _⟩
end
section
open Go.RowKit Go.BigFrame
attribute [local go_sem] ag ab ae af
theorem mZ (x y:Nat) (h:x*y<18446744073709551616) (B:x<18446744073709551616) (A:y<18446744073709551616) (w:World):Calls zy 184 #[.int .u64 (x:Int),.int .u64 (y:Int)] w fun e w'=>e=zT (.tuple #[.int .u64 0,.int .u64 ((x*y:Nat):Int)])∧w=w':=by
 refine (Tryz.bits_Mul x y B A w).mono ?_;rintro e w' ⟨rfl,rfl⟩;rw[Nat.div_eq_of_lt h,Nat.mod_eq_of_lt h];exact ⟨rfl,rfl⟩
theorem yx (w:World):Calls zy 184 #[.int .u64 1,.int .u64 1] w fun e w'=>e=zT (.tuple #[.int .u64 0,.int .u64 1])∧w=w':=mZ 1 1 (by omega) (by omega) (by omega) w
theorem yy (w:World):Calls zy 184 #[.int .u64 1,.int .u64 2] w fun e w'=>e=zT (.tuple #[.int .u64 0,.int .u64 2])∧w=w':=mZ 1 2 (by omega) (by omega) (by omega) w
theorem p7 (B:Nat) (A:Option Addr) (n c:Nat) (w:World) (O:w.cell? ⟨B,0,none⟩=some (zR A n c)) :
  Calls zy 134 #[zR (some ⟨B,0,none⟩) 1 1,zW zX 1] w fun e w'=>(∃ g,e=zT (zR (some ⟨g,0,none⟩) 1 1)∧w'.cell? ⟨g,0,none⟩=some (zR A n c))∧aa [] w w':=by
 have Z:=zB _ _ O;have ad:∀ w:World,(Instr.makeSlice 62 (zW zX 1) (zW zX 1)).run zy w= .ok (zR (some ⟨w.heap.size,0,none⟩) 1 1) (w.alloc (zU #[zR none 0 0] 22)):=fun _=>by kernel_rfl
 go_enter Tryz.func134,Tryz.ntmps134
 go_wp2_with fail
 refine (yx _).mono ?_;rintro e w2 ⟨rfl,rfl⟩;have M:Hid (∀ (j:Nat) (v:Value),[Value.slice A n c][j]? = some v→(w.alloc (zU #[zR none 0 0] 22)).cell? ((⟨B,0,none⟩:Addr).add j)=some v):=zx (fun j v U=>by
  obtain rfl:j=0:=by
   have:=(List.getElem?_eq_some_iff.1 U).1;simpa using this
  obtain rfl:Value.slice A n c=v:=by simpa using U
  rw[dU];exact ((zN [] w).alloc _).cell_of O (by simp))
 go_wp2_with ((refine wpList_copy_splice rfl (.tmp 31) (.tmp 32) 62 62 rfl 22 Tryz.underlying62 (by kernel_rfl) (some ⟨w.heap.size,0,none⟩) (some ⟨B,0,none⟩) 1 1 1 1 rfl rfl w.heap.size 0 [zR none 0 0] 22 (heap_alloc_new _ _) [zR A n c] rfl (fun _=>⟨rfl,_,rfl,M.out⟩) (by simp) (by simp[Value.oneCell']) w.heap.size w ((Below.refl _ _).alloc (zz _) _) (zz _) ?_);intro w3 I D)
 have J:=zx D;clear D;go_wp2;refine wp_loop_rounds 1 ?_;rw[rounds_succ];go_wp2;go_ret;have h:ap w3 w.heap.size 22 #[zR A n c]:=I.out;exact ⟨⟨_,rfl,h.cell 0⟩,aa.of_below J.out⟩
theorem p8 (B:Nat) (A:Option Addr) (n c:Nat) (w:World) (hb:w.cell? ⟨B,0,none⟩=some (zR A n c)) :
  Calls zy 134 #[zR (some ⟨B,0,none⟩) 1 1,zW zX 2] w fun e w'=>(∃ g,e=zT (zR (some ⟨g,0,none⟩) 2 2)∧w'.cell? ⟨g,0,none⟩=some (zR A n c)∧w'.cell? ⟨g,1,none⟩=some (zR A n c))∧aa [] w w':=by
 have a3:=zB _ _ hb;have a5:∀ w:World,(Instr.makeSlice 62 (zW zX 2) (zW zX 2)).run zy w= .ok (zR (some ⟨w.heap.size,0,none⟩) 2 2) (w.alloc (zU #[zR none 0 0,zR none 0 0] 22)):=fun _=>by kernel_rfl
 go_enter Tryz.func134,Tryz.ntmps134
 go_wp2_with fail
 refine (yy _).mono ?_;rintro e w2 ⟨rfl,rfl⟩;have a1:Hid (∀ (j:Nat) (v:Value),[Value.slice A n c][j]? = some v→(w.alloc (zU #[zR none 0 0,zR none 0 0] 22)).cell? ((⟨B,0,none⟩:Addr).add j)=some v):=zx (fun j v O=>by
  obtain rfl:j=0:=by
   have:=(List.getElem?_eq_some_iff.1 O).1;simpa using this
  obtain rfl:Value.slice A n c=v:=by simpa using O
  rw[dU];exact ((zN [] w).alloc _).cell_of hb (by simp))
 go_wp2_with ((refine wpList_copy_splice rfl (.tmp 31) (.tmp 32) 62 62 rfl 22 Tryz.underlying62 (by kernel_rfl) (some ⟨w.heap.size,0,none⟩) (some ⟨B,0,none⟩) 2 2 1 1 rfl rfl w.heap.size 0 [zR none 0 0,zR none 0 0] 22 (heap_alloc_new _ _) [zR A n c] rfl (fun _=>⟨rfl,_,rfl,a1.out⟩) (by simp) (by simp[Value.oneCell']) w.heap.size w ((Below.refl _ _).alloc (zz _) _) (zz _) ?_);intro w3 M Z)
 have D:=zx Z;clear Z;go_wp2;refine wp_loop_rounds 2 ?_;rw[rounds_succ];go_wp2;have HG:Hid (w3.drew.heap[w.heap.size]? = some (zU [zR A n c,zR none 0 0].toArray 22 (0,0))):=zx M.out;have aA:Hid (∀ (j:Nat) (v:Value),[Value.slice A n c][j]? = some v→w3.drew.cell? ((⟨w.heap.size,0,none⟩:Addr).add j)=some v):=zx (fun j v O=>by
  obtain rfl:j=0:=by
   have:=(List.getElem?_eq_some_iff.1 O).1;simpa using this
  obtain rfl:Value.slice A n c=v:=by simpa using O
  have h:ap w3.drew w.heap.size 22 #[zR A n c,zR none 0 0]:=HG.out;exact h.cell 0)
 clear M;generalize hg:w.heap.size=g at *;have a2:=zx hg;clear hg;go_region_law ((with_reducible refine step_copy_splice rfl (.tmp 41) (.tmp 44) 62 62 (by rfl) 22 Tryz.underlying62 (by kernel_rfl) (some ⟨g,1,none⟩) (some ⟨g,0,none⟩) 1 1 1 2 (by go_simp) (by go_simp) g 1 [zR A n c,zR none 0 0] 22 HG.out [zR A n c] rfl (fun _=>⟨rfl,_,rfl,aA.out⟩) (by simp) (by simp[Value.oneCell']) g _ (Below.refl _ _) (zz _) ?_;intro w4 ad U))
 have J:=zx U;clear U;go_wp2;rw[rounds_succ];go_wp2;go_ret;have h:ap w4 g 22 #[zR A n c,zR A n c]:=ad.out;have a4:=a2.out;have I:aa [] w w3:=⟨D.out.os,D.out.output,D.out.size,fun k hk _=>D.out.block k (by omega)⟩;have a0:aa [] w w4:=⟨J.out.os.trans I.os,J.out.output.trans I.output,zA I.size J.out.size,fun k hk _=>(J.out.block k (by omega)).trans (I.block k hk (by simp))⟩;exact ⟨⟨g,rfl,h.cell 0,h.cell 1⟩,a0⟩
end
section
open Go.RowKit Go.BigFrame
attribute [local go_sem] ag ab ae af
attribute [local go_sem] KW.cell
structure nY (w:World):Prop where
 cmp:∃ A c,w.cell? ⟨2,0,none⟩=some (zR A 6 c)∧Rd w [] 1 A 6 (strs compares)
theorem nY.quiet {w w':World} (h:nY w) (B:aa [] w w'):nY w':=⟨by
 obtain ⟨A,c,I,D⟩:=h.cmp;exact ⟨A,c,B.cell_of I (by simp),D.keep B⟩⟩
theorem ej {w:World} {l:List Cl} {A:Option Addr} {c g n:Nat} (O:Rd w [] 2 A l.length (ah l)) (M:l.length≤c) (D:∀ j,j<n→w.cell? ⟨g,j,none⟩=some (zR A l.length c)):aW w (some ⟨g,0,none⟩) (List.replicate n l):=by
 refine ⟨List.replicate n (zR A l.length c),by simp,⟨by simp,fun J=>⟨_,rfl,by simp,?_,fun j u B=>?_⟩⟩,fun i h h'=>?_⟩
 ·exact zB _ _ (D 0 (by simpa using J))
 ·rw[dU,Nat.zero_add]
  rw[List.getElem?_replicate] at B;split at B
  ·rename_i I
   rw[D j I];exact B
  cases B
 rw[List.getElem_replicate,List.getElem_replicate];exact ⟨A,c,rfl,M,O⟩
theorem nZ (j:Jb) (a:List Cl) (Ao:Option Addr) (co:Nat) (Ai:Option Addr) (ni ci:Nat) (Ac:Option Addr) (cc:Nat) (A:Option Addr) (c:Nat) (w:World) (hE:nY w) (hA:Rd w [] 2 A a.length (ah a)) (hc:a.length≤c) (hl:a.length≤4294967296) :
  Calls zy 82 #[gG j Ao co Ai ni ci Ac cc,zR A a.length c] w fun e w'=>aP (bM j a) e w'∧aa [] w w':=by
 have bn:=zx (fun (nm:Bs) W (q:aa [] w W)=>eC a nm A c W (hA.keep q) hl);have bq:=zx (fun W (q:aa [] w W)=>li j.right a A c W (hA.keep q) hl);have HA:=zx hA;obtain ⟨Ag,cg,b7,bA⟩:=hE.cmp;have bB:=zx (fun W (q:aa [] w W)=>jh compares j.op Ag cg W (bA.keep q) (by decide));obtain ⟨R,hR⟩:∃ R,bM j a=R:=⟨_,rfl⟩
 rw[hR];have HR:Hid (R=if j.op∉compares∨j.left.col=[] then .error 1
  else match aw a j.left.col with
   | none=> .error 7
   | some k=>if bL j.right a≠(a.getD k zC).kind then .error 13 else .ok (List.replicate (if j.code=9 then 2 else 1) a)):=zx (by
  rw[←hR];unfold bM;split
  ·rfl
  cases aw a j.left.col<;>rfl)
 clear hR hA bA hE;generalize b3:bL j.right a=KR at *;clear b3;obtain ⟨at_,code,outs,ins,cols,op,⟨lc,lk,ln,lw⟩,⟨rc,rk,rn,U⟩,J⟩:=j;simp only at HR;have HKR':Hid (∀ W,aa [] w W→Calls zy 133 #[.agg #[zQ (bs rc),zW zX rk,zW zX rn,zQ (bs U)],zR A a.length c] W fun e W'=>e=zT (zW zX KR)∧aa [] W W'):=bq;have HCT':Hid (∀ W,aa [] w W→Calls zy 131 #[zR Ag 6 cg,zQ (bs op)] W fun e w'=>e=zT (.bool (decide (op∈compares)))∧W=w'):=bB;clear bq bB;have D:Hid (aa [] w (w.alloc (zU #[zW zX at_,zW zX code,zR Ao outs.length co,zR Ai ni ci,zR Ac cols.length cc,zQ (bs op),zQ (bs lc),zW zX lk,zW zX ln,zQ (bs lw),zQ (bs rc),zW zX rk,zW zX rn,zQ (bs U),zW zX J] 59))):=zx ((zN _ _).alloc _);have cq:=zx (zO w 59 #[zW zX at_,zW zX code,zR Ao outs.length co,zR Ai ni ci,zR Ac cols.length cc,zQ (bs op),zQ (bs lc),zW zX lk,zW zX ln,zQ (bs lw),zQ (bs rc),zW zX rk,zW zX rn,zQ (bs U),zW zX J]);have cv:2<w.heap.size:=zB _ _ b7;show Calls _ _ #[.agg #[zW zX at_,zW zX code,zR Ao outs.length co,zR Ai ni ci,zR Ac cols.length cc,zQ (bs op),zQ (bs lc),zW zX lk,zW zX ln,zQ (bs lw),zQ (bs rc),zW zX rk,zW zX rn,zQ (bs U),zW zX J],zR A a.length c] w _;by_cases M:op∈compares
 ·rw[decide_eq_true M] at HCT'
  cases lc with
  | nil =>
   have B:Hid (R= .error 1):=zx (by rw[HR.out,if_pos (.inr rfl)]);clear HR M;go_enter Tryz.func82,Tryz.ntmps82
   go_wp2_with (go_at_call 131;refine (HCT'.out _ D.out).mono ?_;rintro e w6 ⟨rfl,rfl⟩)
   go_ret2;exact ⟨by rw[B.out];rfl,D.out⟩
  | cons x tl =>
   have bm:R=match aw a (x::tl) with
    | none=> .error 7
    | some k=>if KR≠(a.getD k zC).kind then .error 13 else .ok (List.replicate (if code=9 then 2 else 1) a):=by
    rw[HR.out,if_neg (by
     rintro (h|h)
     ·exact h M
     cases h)]
   have B:=zx bm;have HF:=zx (bn.out (x::tl));clear HR M bm bn
   cases ad:aw a (x::tl) with
   | none =>
    rw[ad] at HF B;have aA:Hid (R= .error 7):=B;clear B ad;go_enter Tryz.func82,Tryz.ntmps82
    go_wp2_with (go_at_call 131;refine (HCT'.out _ D.out).mono ?_;rintro e w6 ⟨rfl,rfl⟩)
    refine (HF.out _ D.out).mono ?_;rintro e w2 ⟨rfl,Z⟩;simp only[aI];go_wp2;go_ret2;exact ⟨by rw[aA.out];rfl,D.out.trans Z⟩
   | some k =>
    rw[ad] at HF B;have bo:k<a.length:=(List.findIdx?_eq_some_iff_getElem.1 ad).1;have a9:a.getD k zC=a[k]:=by rw[zM,zI bo];rfl
    have a1:=zx HA.out;obtain ⟨b4,o4,b5,_,c3,bl⟩:=HA.out.open' (by omega) (by omega);subst b5;have d1:=bl (k*2+1) _ (al a k bo).2;rw[←Nat.add_assoc] at d1;have cp:=zx d1;have c1:((k:Int)<0)=False:=eq_false (by omega);have cx:(0:Int)≤(k:Int):=by omega
    have cu:(k:Int)<(a.length:Int):=by omega
    have bd:R=if KR≠a[k].kind then .error 13 else .ok (List.replicate (if code=9 then 2 else 1) a):=by rw[←a9];exact B.out
    have aA:=zx bd;clear bd B ad a9 bl;generalize a[k].kind=kk at *;clear d1;have b0:∃ b,(KR != kk)=b:=⟨_,rfl⟩
    obtain ⟨bb,bj⟩:=b0;go_enter Tryz.func82,Tryz.ntmps82
    go_wp2_with (go_at_call 131;refine (HCT'.out _ D.out).mono ?_;rintro e w6 ⟨rfl,rfl⟩)
    refine (HF.out _ D.out).mono ?_;rintro e w2 ⟨rfl,Z⟩;simp only[aI];obtain ⟨bx,bk⟩:∃ bx,w.heap.size=bx:=⟨_,rfl⟩
    have I:=zx (cq.out.keep Z (by simp));have a3:=zx (D.out.trans Z);rw[bk] at I ⊢;clear Z;have x1:=a3.out.cell_of cp.out (by simp);have y1:w2.cell? ⟨bx,1,none⟩=some (zW zX code):=I.out.cell 1;have b1:w2.cell? ⟨bx,10,none⟩=some (zQ (bs rc)):=I.out.cell 10;have ch:w2.cell? ⟨bx,11,none⟩=some (zW zX rk):=I.out.cell 11;have b6:w2.cell? ⟨bx,12,none⟩=some (zW zX rn):=I.out.cell 12;have ct:w2.cell? ⟨bx,13,none⟩=some (zQ (bs U)):=I.out.cell 13;have c2:bx<w2.heap.size:=I.out.lt;have c0:b4<w2.heap.size:=zB _ _ x1;have cf:=zx (fun W (q:aa [] w2 W)=>HKR'.out W (a3.out.trans q));clear bk;go_wp2_with fail
    refine aB (by kernel_rfl) (by kernel_rfl) ?_;repeat (go_big_quiet_step (with_reducible exact zP cf.out _))
    refine wpQuiet_nil ?_;intro w3 a5;have a6:=zx (a3.out.trans a5);have z1:=a5.cell_of y1 (by simp);clear a5 b1 ch b6 ct y1 x1
    cases bb with
    | true =>
     have O:Hid (R= .error 13):=zx (by rw[aA.out,if_pos (by simpa using bj)]);go_wp2;go_ret2;exact ⟨by rw[O.out];rfl,a6.out⟩
    | false =>
     have ba:KR=kk:=by simpa using bj
     have O:Hid (R= .ok (List.replicate (if code=9 then 2 else 1) a)):=zx (by rw[aA.out,if_neg (fun h=>h ba)]);clear aA ba;by_cases h9:code=9
     ·have t9:(code==9)=true:=by rw[h9];rfl
      have a7:Hid (R= .ok (List.replicate 2 a)):=zx (by rw[O.out,if_pos h9]);clear O h9;go_wp2_with fail
      refine (p8 _ _ _ _ _ ((zO _ _ _).cell 0)).mono ?_;rintro e w4 ⟨⟨g,rfl,a2,cj⟩,a8⟩;have a0:=zx ((a6.out.alloc _).trans a8);have a4:=zx (ej (n:=2) (a1.out.keep a0.out) hc (fun j hj=>by
       rcases j with _|_|j
       ·exact a2
       ·exact cj
       omega))
      go_wp2;go_ret2;exact ⟨by rw[a7.out];exact ⟨_,2,rfl,zz _,a4.out⟩,a0.out⟩
     have t9:(code==9)=false:=by rw[beq_eq_false_iff_ne];exact h9
     have a7:Hid (R= .ok (List.replicate 1 a)):=zx (by rw[O.out,if_neg h9]);clear O h9;go_wp2_with fail
     refine (p7 _ _ _ _ _ ((zO _ _ _).cell 0)).mono ?_;rintro e w4 ⟨⟨g,rfl,a2⟩,a8⟩;have a0:=zx ((a6.out.alloc _).trans a8);have a4:=zx (ej (n:=1) (a1.out.keep a0.out) hc (fun j hj=>by
      obtain rfl:j=0:=by omega
      exact a2))
     go_wp2;go_ret2;exact ⟨by rw[a7.out];exact ⟨_,1,rfl,zz _,a4.out⟩,a0.out⟩
 rw[decide_eq_false M] at HCT';have B:Hid (R= .error 1):=zx (by rw[HR.out,if_pos (.inl M)]);clear HR M;go_enter Tryz.func82,Tryz.ntmps82
 go_wp2_with (go_at_call 131;refine (HCT'.out _ D.out).mono ?_;rintro e w6 ⟨rfl,rfl⟩)
 go_ret2;exact ⟨by rw[B.out];rfl,D.out⟩
theorem zb (w:World) (o:Obj):(w.alloc o).heap.size=w.heap.size+1:=Array.size_push _
theorem p9 (w:World) (t:TypeId) (cs:List Value) (n size:Nat) (h:cs.length=n*size):Rd (w.alloc (zU cs.toArray t)) [] size (some ⟨w.heap.size,0,none⟩) n cs :=
 ⟨h,fun _=>⟨_,rfl,by simp,(zO _ _ _).lt,fun j u A=>by
  rw[dU,Nat.zero_add,(zO w t cs.toArray).cell j];simpa using A⟩⟩
theorem aW.drew' {w:World} {A:Option Addr} {B:List (List Cl)} (h:aW w A B):aW w.drew A B:=h
theorem oO (j:Jb) (a:List Cl) (Ao:Option Addr) (co:Nat) (Ai:Option Addr) (ni ci:Nat) (Ac:Option Addr) (cc:Nat) (A:Option Addr) (c:Nat) (w:World) (hJ:fd w j Ao co Ac cc) (hA:Rd w [] 2 A a.length (ah a)) (hl:a.length≤4294967296) :
  Calls zy 87 #[gG j Ao co Ai ni ci Ac cc,zR A a.length c] w fun e w'=>aP (cC j a) e w'∧aa [] w w':=by
 have ba:=zx (fun (nm:Bs) W (q:aa [] w W)=>eC a nm A c W (hA.keep q) hl);have HA:=zx hA;have HJ:=zx hJ.cols;obtain ⟨R,hR⟩:∃ R,cC j a=R:=⟨_,rfl⟩
 rw[hR]
 have HR:Hid (R=if j.cols.length≠2∨¬(j.op=[115,117,109]∨j.op=[109,97,120]) then .error 1 else match aw a (j.cols.getD 0 []),aw a (j.cols.getD 1 []) with
  | some k,some m=>if (a.getD m zC).kind≠1 then .error 13 else if k=m then .error 9 else .ok [[a.getD k zC,a.getD m zC]]
  | _,_=> .error 7):=zx (by
  rw[←hR];unfold cC;split
  ·rfl
  cases aw a (j.cols.getD 0 [])<;>cases aw a (j.cols.getD 1 [])<;>rfl)
 clear hR hJ hA;obtain ⟨at_,code,outs,ins,cols,op,⟨lc,lk,ln,lw⟩,⟨rc,rk,rn,a3⟩,J⟩:=j;simp only at HR HJ;show Calls _ _ #[.agg #[zW zX at_,zW zX code,zR Ao outs.length co,zR Ai ni ci,zR Ac cols.length cc,zQ (bs op),zQ (bs lc),zW zX lk,zW zX ln,zQ (bs lw),zQ (bs rc),zW zX rk,zW zX rn,zQ (bs a3),zW zX J],zR A a.length c] w _;by_cases h1:cols.length=2
 ·have t0:((cols.length:Int) != 2)=false:=by rw[h1];rfl
  obtain ⟨Z,n2,bn⟩:∃ Z n2,cols=[Z,n2]:=by
   match cols,h1 with
   | [Z,n2],_=>exact ⟨Z,n2,rfl⟩
  subst bn;obtain ⟨b,o,rfl,_,hb,I⟩:=HJ.out.open' (by simp) (by decide);have s0:w.cell? ⟨b,o,none⟩=some (zQ (bs Z)):=I 0 _ rfl;have s1:w.cell? ⟨b,o+1,none⟩=some (zQ (bs n2)):=I 1 _ rfl;have a8:=zx s0;have a7:=zx s1;clear I h1 HJ s0 s1;show Calls _ _ #[.agg #[zW zX at_,zW zX code,zR Ao outs.length co,zR Ai ni ci,zR (some ⟨b,o,none⟩) 2 cc,zQ (bs op),zQ (bs lc),zW zX lk,zW zX ln,zQ (bs lw),zQ (bs rc),zW zX rk,zW zX rn,zQ (bs a3),zW zX J],zR A a.length c] w _;by_cases U:op=[115,117,109]∨op=[109,97,120]
  ·have O:Hid (R=match aw a Z,aw a n2 with
    | some k,some m=>if (a.getD m zC).kind≠1 then .error 13 else if k=m then .error 9 else .ok [[a.getD k zC,a.getD m zC]]
    | _,_=> .error 7):=zx (HR.out.trans (by
     rw[if_neg (by
      rintro (h|h)
      ·exact h rfl
      exact h U)]
     show (match aw a Z,aw a n2 with|some k,some m=>_|_,_=>_)=_;cases aw a Z<;>cases aw a n2<;>rfl))
   clear HR;have bm:∃ b1 b2,(op==[115,117,109])=b1∧(op==[109,97,120])=b2∧(b1=true∨b2=true):=⟨_,_,rfl,rfl,by simpa using U⟩
   obtain ⟨b1,b2,t1,t2,bd⟩:=bm;clear U;have bl:(b1=true)∨(b1=false∧b2=true):=by
    cases b1<;>cases b2<;>simp at bd ⊢
   clear bd;obtain ⟨w2,a2⟩:∃ w2,w.alloc (zU #[zW zX at_,zW zX code,zR Ao outs.length co,zR Ai ni ci,zR (some ⟨b,o,none⟩) 2 cc,zQ (bs op),zQ (bs lc),zW zX lk,zW zX ln,zQ (bs lw),zQ (bs rc),zW zX rk,zW zX rn,zQ (bs a3),zW zX J] 59)=w2:=⟨_,rfl⟩
   have B:Hid (aa [] w w2):=zx (by rw[←a2];exact (zN _ _).alloc _);have ad:Hid (ap w2 w.heap.size 59 #[zW zX at_,zW zX code,zR Ao outs.length co,zR Ai ni ci,zR (some ⟨b,o,none⟩) 2 cc,zQ (bs op),zQ (bs lc),zW zX lk,zW zX ln,zQ (bs lw),zQ (bs rc),zW zX rk,zW zX rn,zQ (bs a3),zW zX J]):=zx (by rw[←a2];exact zO _ _ _);have HW:=zx a2;clear a2;obtain ⟨k1,a1⟩:∃ k1,aw a Z=k1:=⟨_,rfl⟩
   obtain ⟨k2,a5⟩:∃ k2,aw a n2=k2:=⟨_,rfl⟩
   have a4:Hid (∀ W,aa [] w2 W→Calls zy 132 #[zR A a.length c,zQ (bs Z)] W fun e W'=>e=zT (zW zX (aI k1))∧aa [] W W'):=zx fun W q=>by
    rw[←a1];exact ba.out Z W (B.out.trans q)
   have aA:Hid (∀ W,aa [] w2 W→Calls zy 132 #[zR A a.length c,zQ (bs n2)] W fun e W'=>e=zT (zW zX (aI k2))∧aa [] W W'):=zx fun W q=>by
    rw[←a5];exact ba.out n2 W (B.out.trans q)
   have bo:Hid (∀ k,k1=some k→k<a.length):=zx fun k h=>(List.findIdx?_eq_some_iff_getElem.1 (a1.trans h)).1
   have bq:Hid (∀ k,k2=some k→k<a.length):=zx fun k h=>(List.findIdx?_eq_some_iff_getElem.1 (a5.trans h)).1
   rw[a1,a5] at O;clear ba a1 a5;rcases bl with rfl|⟨rfl,rfl⟩
   all_goals
    cases k1 with
    | none =>
     have HE:Hid (R= .error 7):=zx (by rw[O.out]);have HF1':Hid (∀ W,aa [] w2 W→Calls zy 132 #[zR A a.length c,zQ (bs Z)] W fun e W'=>e=zT (zW zX (-1))∧aa [] W W'):=a4;clear a4 O;generalize aI k2=q2 at aA;go_enter Tryz.func87,Tryz.ntmps87
     go_upto_region 3 with (fail)
     rw[HW.out];have y4:w2.cell? ⟨w.heap.size,4,none⟩=some (zR (some ⟨b,o,none⟩) 2 cc):=ad.out.cell 4;have s0:=B.out.cell_of a8.out (by simp);have s1:=B.out.cell_of a7.out (by simp);have bk:w.heap.size<w2.heap.size:=ad.out.lt;have bj:b<w2.heap.size:=zB _ _ s0;generalize w.heap.size=bx at *;refine aB (by kernel_rfl) (by kernel_rfl) ?_;repeat (go_big_quiet_step (first|with_reducible exact zP HF1'.out _|with_reducible exact zP aA.out _))
     refine wpQuiet_nil ?_;intro w3 M;have D:=zx (B.out.trans M);clear M y4 s0 s1;go_wp2;go_ret2;exact ⟨by rw[HE.out];rfl,D.out⟩
    | some k =>
     have bb:=bo.out k rfl;have bB:((k:Int)<0)=False:=eq_false (by omega);have HF1':Hid (∀ W,aa [] w2 W→Calls zy 132 #[zR A a.length c,zQ (bs Z)] W fun e W'=>e=zT (zW zX (k:Int))∧aa [] W W'):=a4;clear a4
     cases k2 with
     | none =>
      have HE:Hid (R= .error 7):=zx (by rw[O.out]);have HF2':Hid (∀ W,aa [] w2 W→Calls zy 132 #[zR A a.length c,zQ (bs n2)] W fun e W'=>e=zT (zW zX (-1))∧aa [] W W'):=aA;clear aA O;go_enter Tryz.func87,Tryz.ntmps87
      go_upto_region 3 with (fail)
      rw[HW.out];have y4:w2.cell? ⟨w.heap.size,4,none⟩=some (zR (some ⟨b,o,none⟩) 2 cc):=ad.out.cell 4;have s0:=B.out.cell_of a8.out (by simp);have s1:=B.out.cell_of a7.out (by simp);have bk:w.heap.size<w2.heap.size:=ad.out.lt;have bj:b<w2.heap.size:=zB _ _ s0;generalize w.heap.size=bx at *;refine aB (by kernel_rfl) (by kernel_rfl) ?_;repeat (go_big_quiet_step (first|with_reducible exact zP HF1'.out _|with_reducible exact zP HF2'.out _))
      refine wpQuiet_nil ?_;intro w3 M;have D:=zx (B.out.trans M);clear M y4 s0 s1;go_wp2;go_ret2;exact ⟨by rw[HE.out];rfl,D.out⟩
     | some m =>
      have a6:=bq.out m rfl;have b0:((m:Int)<0)=False:=eq_false (by omega);have b3:(m:Int)<(a.length:Int):=by omega
      have bA:(k:Int)<(a.length:Int):=by omega
      have b5:(0:Int)≤(m:Int):=by omega
      have a1:(0:Int)≤(k:Int):=by omega
      have HF2':Hid (∀ W,aa [] w2 W→Calls zy 132 #[zR A a.length c,zQ (bs n2)] W fun e W'=>e=zT (zW zX (m:Int))∧aa [] W W'):=aA;clear aA;have gm:a.getD m zC=a[m]:=by rw[zM,zI a6];rfl
      have gk:a.getD k zC=a[k]:=by rw[zM,zI bb];rfl
      obtain ⟨b4,o4,rfl,_,b6,I⟩:=HA.out.open' (by omega) (by omega);have c0:=I (m*2) _ (al a m a6).1;have c1:=I (m*2+1) _ (al a m a6).2;have c2:=I (k*2) _ (al a k bb).1;have c3:=I (k*2+1) _ (al a k bb).2;rw[←Nat.add_assoc] at c1 c3;have a0:Hid (R=if (a.getD m zC).kind≠1 then .error 13 else if k=m then .error 9 else .ok [[a.getD k zC,a.getD m zC]]):=O;rw[gm,gk] at a0;obtain ⟨x,hx⟩:∃ x,a[k]=x:=⟨_,rfl⟩
      obtain ⟨y,hy⟩:∃ y,a[m]=y:=⟨_,rfl⟩
      rw[hx,hy] at a0;rw[hy] at c0 c1;rw[hx] at c2 c3;have C0:=zx c0;have C1:=zx c1;have C2:=zx c2;have C3:=zx c3;clear I c0 c1 c2 c3 gm gk hx hy O HA;go_enter Tryz.func87,Tryz.ntmps87
      go_upto_region 3 with (fail)
      rw[HW.out];have y4:w2.cell? ⟨w.heap.size,4,none⟩=some (zR (some ⟨b,o,none⟩) 2 cc):=ad.out.cell 4;have s0:=B.out.cell_of a8.out (by simp);have s1:=B.out.cell_of a7.out (by simp);have bk:w.heap.size<w2.heap.size:=ad.out.lt;have bj:b<w2.heap.size:=zB _ _ s0;generalize w.heap.size=bx at *;refine aB (by kernel_rfl) (by kernel_rfl) ?_;repeat (go_big_quiet_step (first|with_reducible exact zP HF1'.out _|with_reducible exact zP HF2'.out _))
      refine wpQuiet_nil ?_;intro w3 M;have D:=zx (B.out.trans M);clear M y4 s0 s1;have c1:=D.out.cell_of C1.out (by simp);have l4:=zB _ _ c1;by_cases hk:y.kind=1
      ·have tk:(y.kind != 1)=false:=by simp[hk]
       by_cases a9:k=m
       ·have HE:Hid (R= .error 9):=zx (by rw[a0.out,if_neg (fun h=>h hk),if_pos a9])
        subst a9;clear hk;go_wp2;go_ret2;exact ⟨by rw[HE.out];rfl,D.out⟩
       have HE:Hid (R= .ok [[x,y]]):=zx (by rw[a0.out,if_neg (fun h=>h hk),if_neg a9]);have tm:((k:Int)==(m:Int))=false:=by simp;omega
       have c0:=D.out.cell_of C0.out (by simp);have c2:=D.out.cell_of C2.out (by simp);have c3:=D.out.cell_of C3.out (by simp);clear hk;go_wp2;go_region
       all_goals
        go_wp2;go_ret2;have hh:=(cU (l:=[x,y]) (p9 w3 109 (ah [x,y]) 2 2 rfl) (zz 2) 22).drew';rw[zb] at hh;exact ⟨by rw[HE.out];exact ⟨_,_,rfl,zz _,hh⟩,((D.out.alloc _).alloc _).drew⟩
      have HE:Hid (R= .error 13):=zx (by rw[a0.out,if_pos hk]);have tk:(y.kind != 1)=true:=by simp[hk]
      clear hk;go_wp2;go_ret2;exact ⟨by rw[HE.out];rfl,D.out⟩
  have t1:(op==[115,117,109])=false:=by simpa using fun h=>U (.inl h)
  have t2:(op==[109,97,120])=false:=by simpa using fun h=>U (.inr h)
  have HE:Hid (R= .error 1):=zx (by rw[HR.out,if_pos (.inr U)]);clear U HR HA;go_enter Tryz.func87,Tryz.ntmps87
  go_wp2;go_ret2;exact ⟨by rw[HE.out];rfl,(zN _ _).alloc _⟩
 have t0:((cols.length:Int) != 2)=true:=by simp;omega
 have HE:Hid (R= .error 1):=zx (by rw[HR.out,if_pos (.inl h1)]);clear h1 HR HA;go_enter Tryz.func87,Tryz.ntmps87
 go_wp2;go_ret2;exact ⟨by rw[HE.out];rfl,(zN _ _).alloc _⟩
end
section
open Go.RowKit Go.BigFrame
attribute [local go_sem] ag ab ae af
theorem rT (A:Option Addr) (m d n:Nat) (h:n≤d) (W:World):(Instr.slice 55 (zR A m d) none (some (zW zX (n:Int))) none).run zy W= .ok (zR A n d) W:=by
 have I:=Tryz.underlying55;have D:(0:Int)≤(n:Int):=by omega
 have B:(n:Int)≤(d:Int):=by omega
 cases A with
 | none=>go_simp
 | some a=>go_simp
theorem tC {w:World} {A:Option Addr} {l:List Bs} {n:Nat} (h:Rd w [] 1 A l.length (strs l)) (U:n≤l.length):Rd w [] 1 A (l.take n).length (strs (l.take n)):=by
 refine ⟨by rw[jR,Nat.mul_one],fun I=>?_⟩;obtain ⟨O,e,J,D,M⟩:=h.2 (by rw[List.length_take] at I;omega);refine ⟨O,e,J,D,fun j u B=>M j u ?_⟩;unfold strs at B ⊢;rw[List.map_take,List.getElem?_take] at B;split at B
 ·exact B
 cases B
theorem qa:(Tryz.prog.info? 109).map (fun i=>(i.zero,i.size,i.bytes))=some (some (.agg #[zQ ⟨#[]⟩,zW zX 0]),2,24):=by kernel_rfl
theorem gr (q:List Cl) (v:Cl):ah (q++[v])=ah q++[zQ (bs v.name),zW zX v.kind]:=by simp[ah,fG]
theorem nd (a:List Cl) (l:List Bs) (m:Nat) (h:m<l.length) (out:List Cl):bK a (l.take m) (l.drop m) out=match aw a l[m] with
  | none=> .error 7
  | some k=>if l[m]∈l.take m then .error 9 else bK a (l.take (m+1)) (l.drop (m+1)) (out++[a.getD k zC]):=by
 rw[List.drop_eq_getElem_cons h];conv=>lhs;unfold bK
 rw[List.take_succ_eq_append_getElem h];cases aw a l[m]<;>rfl
theorem qc (j:Jb) (a:List Cl) (Ao:Option Addr) (co:Nat) (Ai:Option Addr) (ni ci:Nat) (Ac:Option Addr) (cc:Nat) (A:Option Addr) (c:Nat) (w:World) (hJ:fd w j Ao co Ac cc) (hA:Rd w [] 2 A a.length (ah a)) (hc:a.length≤c) (hl:a.length≤4294967296) :
  Calls zy 84 #[gG j Ao co Ai ni ci Ac cc,zR A a.length c] w fun e w'=>aP (bT j a) e w'∧aa [] w w':=by
 obtain ⟨ic,ct,b6,bm,b1⟩:=info_parts qa;have c1:=zx (fun (nm:Bs) W (q:aa [] w W)=>eC a nm A c W (hA.keep q) hl);have HA:=zx hA;have HJ:=zx hJ.cols;have cu:=hJ.cc;have cp:=hJ.lc;obtain ⟨R,hR⟩:∃ R,bT j a=R:=⟨_,rfl⟩
 rw[hR]
 have HR:Hid (R=if j.cols.length=0∨6<j.cols.length then .error 1 else match bK a [] j.cols [] with
  | .error e=> .error e
  | .ok out=> .ok [if j.code=4 then a else out]):=zx (by
  rw[←hR];unfold bT;split
  ·rfl
  cases bK a [] j.cols []<;>rfl)
 clear hR hJ hA;obtain ⟨at_,code,outs,ins,cols,op,⟨lc,lk,ln,lw⟩,⟨rc,rk,rn,a1⟩,I⟩:=j;simp only at HR HJ cu cp;have a2:Hid (aa [] w (w.alloc (zU #[zW zX at_,zW zX code,zR Ao outs.length co,zR Ai ni ci,zR Ac cols.length cc,zQ (bs op),zQ (bs lc),zW zX lk,zW zX ln,zQ (bs lw),zQ (bs rc),zW zX rk,zW zX rn,zQ (bs a1),zW zX I] 59))):=zx ((zN _ _).alloc _);have a3:=zx (zO w 59 #[zW zX at_,zW zX code,zR Ao outs.length co,zR Ai ni ci,zR Ac cols.length cc,zQ (bs op),zQ (bs lc),zW zX lk,zW zX ln,zQ (bs lw),zQ (bs rc),zW zX rk,zW zX rn,zQ (bs a1),zW zX I]);show Calls _ _ #[.agg #[zW zX at_,zW zX code,zR Ao outs.length co,zR Ai ni ci,zR Ac cols.length cc,zQ (bs op),zQ (bs lc),zW zX lk,zW zX ln,zQ (bs lw),zQ (bs rc),zW zX rk,zW zX rn,zQ (bs a1),zW zX I],zR A a.length c] w _;by_cases h0:cols.length=0
 ·have t0:((cols.length:Int)==0)=true:=by rw[h0];rfl
  have a7:Hid (R= .error 1):=zx (by rw[HR.out,if_pos (.inl h0)]);clear HR h0;go_enter Tryz.func84,Tryz.ntmps84
  go_wp2;go_ret2;exact ⟨by rw[a7.out];rfl,a2.out⟩
 have t0:((cols.length:Int)==0)=false:=by rw[beq_eq_false_iff_ne];omega
 by_cases h6:6<cols.length
 ·have t6:decide ((6:Int)<(cols.length:Int))=true:=decide_eq_true (by omega)
  have a7:Hid (R= .error 1):=zx (by rw[HR.out,if_pos (.inr h6)]);clear HR h0 h6;go_enter Tryz.func84,Tryz.ntmps84
  go_wp2;go_ret2;exact ⟨by rw[a7.out];rfl,a2.out⟩
 have t6:decide ((6:Int)<(cols.length:Int))=false:=decide_eq_false (by omega)
 have bl:R=match bK a [] cols [] with
  | .error e=> .error e
  | .ok out=> .ok [if code=4 then a else out]:=by
  rw[HR.out,if_neg (by omega)]
 have a8:=zx bl;obtain ⟨b,o,rfl,_,hb,J⟩:=HJ.out.open' (by omega) (by decide);have c2:=zx J;have c5:0<cols.length:=by omega
 clear HR h0 bl J;go_enter Tryz.func84,Tryz.ntmps84
 go_wp2;obtain ⟨w2,bk⟩:∃ w2,(w.alloc (zU #[zW zX at_,zW zX code,zR Ao outs.length co,zR Ai ni ci,zR (some ⟨b,o,none⟩) cols.length cc,zQ (bs op),zQ (bs lc),zW zX lk,zW zX ln,zQ (bs lw),zQ (bs rc),zW zX rk,zW zX rn,zQ (bs a1),zW zX I] 59))=w2:=⟨_,rfl⟩
 rw[bk] at a2 a3 ⊢;obtain ⟨bx,bA⟩:∃ bx,w.heap.size=bx:=⟨_,rfl⟩
 rw[bA] at a3 ⊢;clear bk bA;go_loopw [6,24] (fun u i wx=>∃ (m:Nat) (q:List Cl) (v:Value),v=u∧m≤cols.length∧q.length=m∧i=zW zX m∧wx.ownsRow w2.heap.size 109 2 v m (ah q)∧Hid (bK a (cols.take m) (cols.drop m) q=bK a [] cols [])∧aa [] w2 wx) (fun _ i _=>cols.length-(intOf i).toNat)
 case atStart=>exact ⟨0,[],_,rfl,zE _,rfl,rfl,World.ownsRow_nil _ _ _ _,by rw[List.take_zero,List.drop_zero];exact rfl,zN _ _⟩
 obtain ⟨m,q,v,rfl,hm,hq,rfl,a4,bj,hk⟩:=hrel;have HQ:=zx hq;have HO:=zx a4;have HK:=zx hk;have D:=zx (a2.out.trans hk);clear hq a4 hk;by_cases bq:m<cols.length
 ·have d0:=D.out.cell_of (c2.out m _ (b9 cols m bq)) (by simp)
  have y4:wr.cell? ⟨bx,4,none⟩=some (zR (some ⟨b,o,none⟩) cols.length cc):=HK.out.cell_of (a3.out.cell 4) (by simp);have a6:=nd a cols m bq q;rw[bj.out] at a6;have a0:=zx a6;have aA:=zx (fun W (z:aa [] w W)=>jh (cols.take m) (cols[m]) (some ⟨b,o,none⟩) cc W (tC (HJ.out.keep z) hm) (by rw[List.length_take];omega));have b0:(cols.take m).length=m:=by rw[List.length_take];omega
  rw[b0] at aA;have dq:=rT (some ⟨b,o,none⟩) cols.length cc m (by omega);have HF:=zx (c1.out cols[m]);clear a6 b0;generalize cols[m]=nm at *
  cases Z:aw a nm with
  | none =>
   rw[Z] at HF a0;have U:Hid (R= .error 7):=zx (by rw[a8.out,a0.out]);clear Z;go_wp2_with fail
   refine (HF.out _ D.out).mono ?_;rintro e w5 ⟨rfl,B⟩;simp only[aI];go_wp2;go_ret2;exact ⟨by rw[U.out];rfl,D.out.trans B⟩
  | some k =>
   rw[Z] at HF a0;have ba:k<a.length:=(List.findIdx?_eq_some_iff_getElem.1 Z).1;have a5:a.getD k zC=a[k]:=by rw[zM,zI ba];rfl
   obtain ⟨b4,o4,cj,_,dB,J⟩:=HA.out.open' (by omega) (by omega);subst cj;have d1:=J (k*2) _ (al a k ba).1;have d2:=J (k*2+1) _ (al a k ba).2;rw[←Nat.add_assoc] at d2;have dv:((k:Int)<0)=False:=eq_false (by omega);have c9:(0:Int)≤(k:Int):=by omega
   have c7:(k:Int)<(a.length:Int):=by omega
   by_cases ad:nm∈cols.take m
   ·rw[decide_eq_true ad] at aA
    have U:Hid (R= .error 9):=zx (by rw[a8.out,a0.out];simp only;rw[if_pos ad]);clear Z ad J a5 d1 d2;go_wp2_with fail
    refine (HF.out _ D.out).mono ?_;rintro e w5 ⟨rfl,B⟩;simp only[aI];have y5:=B.cell_of y4 (by simp);go_wp2_with (go_at_call 131;refine (aA.out _ (D.out.trans B)).mono ?_;rintro e w6 ⟨rfl,rfl⟩)
    go_ret2;exact ⟨by rw[U.out];rfl,D.out.trans B⟩
   rw[decide_eq_false ad] at aA;have b3:Hid (bK a (cols.take (m+1)) (cols.drop (m+1)) (q++[a[k]])=bK a [] cols []):=zx (by rw[a0.out];simp only;rw[if_neg ad,a5]);have cv:=zx d1;have cg:=zx d2;clear Z ad J a5 d1 d2;generalize a[k]=cl at *;go_wp2_with fail
   refine (HF.out _ D.out).mono ?_;rintro e w5 ⟨rfl,B⟩;simp only[aI];have y5:=B.cell_of y4 (by simp);have e1:=(D.out.trans B).cell_of cv.out (by simp);have e2:=(D.out.trans B).cell_of cg.out (by simp);have bn:=zx (bh HO.out B (fun _ _=>by simp));have ds:w2.heap.size≤w5.heap.size:=zA HK.out.size B.size;have c3:=zx (HK.out.trans B);have b7:=zx (aA.out _ (D.out.trans B));have bo:=zx (show m+1≤maxLen∧(m+1)*24≤140737488355328 by simp only[maxLen];omega);clear B y4;go_wp2_with (first|(go_at_call 131;refine b7.out.mono ?_;rintro e w6 ⟨rfl,rfl⟩)|(at_builtin;refine wpList_append_lies _ rfl _ _ 22 rfl w2.heap.size 109 ic _ 2 24 Tryz.underlying22 ct b6 bm b1 rfl (by decide) _ m (ah q) rfl (bn.out.alloc _) ⟨w5.heap.size,0,none⟩ 1 1 [zQ (bs cl.name),zW zX cl.kind] rfl rfl (zJ (heap_alloc_new _ _)) (by simp[Value.oneCell']) (by decide) bo.out.1 bo.out.2 (by simp;omega) _ rfl ?_;intro gw c6 w8 M O bB cf))
   have cx:=zx ((c3.out.alloc (zU #[zQ (bs cl.name),zW zX cl.kind] 109)).grown O (fun g hg=> .inr (bn.out.lt g hg).1));rw[←gr] at M;have ch:=zx M;clear M O bB cf;go_wp2;go_roundw
   case rel=>exact ⟨m+1,q++[cl],_,rfl,by omega,by simp[HQ.out],by go_num,ch.out,b3,cx.out⟩
   case measure=>simp[intOf];omega
 obtain rfl:m=cols.length:=by omega
 have bb:=bj.out;rw[List.drop_length] at bb;have U:Hid (R= .ok [if code=4 then a else q]):=zx (by rw[a8.out,←bb];rfl);clear bb bj;have y1:wr.cell? ⟨bx,1,none⟩=some (zW zX code):=HK.out.cell_of (a3.out.cell 1) (by simp);by_cases h4:code=4
 ·have t4:(code==4)=true:=by rw[h4];rfl
  have bd:Hid (R= .ok [a]):=zx (by rw[U.out,if_pos h4]);have a9:=zx (cU (HA.out.keep D.out) hc 22);clear h4;go_wp2;go_ret2;exact ⟨by rw[bd.out];exact ⟨_,_,rfl,zz _,a9.out⟩,D.out.alloc _⟩
 have t4:(code==4)=false:=by rw[beq_eq_false_iff_ne];exact h4
 have bd:Hid (R= .ok [q]):=zx (by rw[U.out,if_neg h4]);obtain ⟨Aq,cq,hv,c0,b5⟩:∃ A c,v=zR A q.length c∧q.length≤c∧Rd wr [] 2 A q.length (ah q):=by
  have h:=HO.out;rcases h.2 with ⟨hv,h0⟩|⟨g,c4,c8,hv,hb,hh,hc,r⟩
  ·omega
  exact ⟨_,c4,by rw[HQ.out];exact hv,by rw[HQ.out];exact hc,by rw[HQ.out];exact Rd.of_own (hv ▸ h) (fun _ _=>by simp)⟩
 subst hv;have a9:=zx (cU b5 c0 22);clear h4 b5;go_wp2;go_ret2;exact ⟨by rw[bd.out];exact ⟨_,_,rfl,zz _,a9.out⟩,D.out.alloc _⟩
end
section
open Go.RowKit
attribute [local go_sem] ag ab ae af
theorem qd (l m:List Cl) (A B:Option Addr) (c d:Nat) (w:World) (hA:Rd w [] 2 A l.length (ah l)) (hB:Rd w [] 2 B m.length (ah m)) (hl:l.length≤4294967296) (hm:m.length≤4294967296) :
  Calls zy 85 #[zR A l.length c,zR B m.length d] w fun e w'=>e=zT (.bool (decide (l=m)))∧aa [] w w':=by
 have HA:=zx hA;have HB:=zx hB;clear hA hB;by_cases D:l.length=m.length
 ·have t1:((l.length:Int) != (m.length:Int))=false:=by rw[D];simp
  have t2:(l.length != m.length)=false:=by rw[D];simp
  have HL:=zx D;clear D;go_enter Tryz.func85,Tryz.ntmps85
  go_wp2;go_loopw [13] (fun i wr=>∃ n:Nat,n≤l.length∧i=zW zX n∧Hid (l.take n=m.take n)∧aa [] w wr) (fun i _=>l.length-(intOf i).toNat)
  case atStart=>exact ⟨0,zE _,rfl,by rw[List.take_zero,List.take_zero];exact rfl,zN _ _⟩
  obtain ⟨n,hn,rfl,aA,hk⟩:=hrel;by_cases U:n<l.length
  ·have O:n<m.length:=by rw[←HL.out];exact U
   obtain ⟨b,o,rfl,_,hb,hc⟩:=(HA.out.keep hk).open' (by omega) (by omega);obtain ⟨b2,o2,rfl,_,a3,ad⟩:=(HB.out.keep hk).open' (by omega) (by omega);have d1:=hc (n*2) _ (al l n U).1;have d2:=hc (n*2+1) _ (al l n U).2;have e1:=ad (n*2) _ (al m n O).1;have e2:=ad (n*2+1) _ (al m n O).2;rw[←Nat.add_assoc] at d2 e2;have a4:(0:Int)≤(n:Int):=by omega
   have a1:(n:Int)<(l.length:Int):=by omega
   have a2:(n:Int)<(m.length:Int):=by omega
   have Z:l.take (n+1)=l.take n++[l[n]]:=List.take_succ_eq_append_getElem U;have M:m.take (n+1)=m.take n++[m[n]]:=List.take_succ_eq_append_getElem O;have J:l[n]≠m[n]→decide (l=m)=false:=fun h=>by
    rw[decide_eq_false_iff_not];rintro rfl;exact h rfl
   have hq:=xx l[n] m[n];generalize l[n]=x at *;generalize m[n]=y at *;clear hc ad;by_cases I:x=y
   ·have hno':Hid (l.take (n+1)=m.take (n+1)):=zx (by rw[Z,M,aA.out,I])
    rw[decide_eq_true I] at hq;clear Z M J I;go_wp2_with fail
    go_quiet (fail)
    go_wp2;go_roundw
    case rel=>exact ⟨n+1,by omega,by go_num,hno',hk.drewN _⟩
    case measure=>simp[intOf];omega
   have HD:=zx (J I);rw[decide_eq_false I] at hq;clear Z M J I;go_wp2_with fail
   go_quiet (fail)
   go_wp2;go_ret;exact ⟨by rw[HD.out];rfl,hk.drewN _⟩
  have a0:Hid (decide (l=m)=true):=zx (by
   have h:=aA.out;rw[List.take_of_length_le (by omega),List.take_of_length_le (by rw[←HL.out];omega)] at h;exact decide_eq_true h)
  go_wp2;go_ret;exact ⟨by rw[a0.out];rfl,hk⟩
 have t1:((l.length:Int) != (m.length:Int))=true:=by rw[bne_iff_ne];omega
 have t2:(l.length != m.length)=true:=by rw[bne_iff_ne];exact D
 have HD:Hid (decide (l=m)=false):=zx (by rw[decide_eq_false_iff_not];rintro rfl;exact D rfl);clear D;go_enter Tryz.func85,Tryz.ntmps85
 go_wp2;go_ret;exact ⟨by rw[HD.out];rfl,zN _ _⟩
end
section
open Go.RowKit Go.BigFrame
attribute [local go_sem] ag ab ae af
attribute [local go_sem] KW.cell
theorem aP.split {R:Except Int (List (List Cl))} {e:Ending} {w:World} (h:aP R e w):∃ u v,e=zT (.tuple #[u,v])∧aP R (zT (.tuple #[u,v])) w:=by
 cases R with
 | error x=>exact ⟨_,_,h,rfl⟩
 | ok out =>
  obtain ⟨B,d,rfl,D,A⟩:=h;exact ⟨_,_,rfl,B,d,rfl,D,A⟩
theorem aW.first {w:World} {A:Option Addr} {D:List (List Cl)} (h:aW w A D) (J:0<D.length) (hl:D.length≤4294967296):∃ b o B d,A=some ⟨b,o,none⟩∧b<w.heap.size∧w.cell? ⟨b,o,none⟩=some (zR B (D.getD 0 []).length d)∧(D.getD 0 []).length≤d∧Rd w [] 2 B (D.getD 0 []).length (ah (D.getD 0 [])):=by
 obtain ⟨us,h1,M,Z⟩:=h;obtain ⟨b,o,rfl,_,O,hc⟩:=M.open' (by omega) (by omega);obtain ⟨B,d,U,hd,hB⟩:=Z 0 (by omega) J;have I:D.getD 0 []=D[0]:=by rw[zM,zI J];rfl
 refine ⟨b,o,B,d,rfl,O,?_,by rw[I];exact hd,by rw[I];exact hB⟩;rw[I,←U];exact hc 0 _ (zI (by omega))
theorem aW.second {w:World} {b o:Nat} {A:List (List Cl)} (h:aW w (some ⟨b,o,none⟩) A) (I:1<A.length) (hl:A.length≤4294967296):∃ B d,w.cell? ⟨b,o+1,none⟩=some (zR B (A.getD 1 []).length d)∧(A.getD 1 []).length≤d∧Rd w [] 2 B (A.getD 1 []).length (ah (A.getD 1 [])):=by
 obtain ⟨us,h1,J,O⟩:=h;obtain ⟨b2,o2,U,_,hb,hc⟩:=J.open' (by omega) (by omega);cases U
 obtain ⟨B,d,M,hd,Z⟩:=O 1 (by omega) I;have D:A.getD 1 []=A[1]:=by rw[zM,zI I];rfl
 refine ⟨B,d,?_,by rw[D];exact hd,by rw[D];exact Z⟩;rw[D,←M];exact hc 1 _ (zI (by omega))
theorem xy (at_ B M ln Z O:Int) (outs js cols:List Bs) (op J U rc D:Bs) (Ao:Option Addr) (co:Nat) (Ai:Option Addr) (ni ci:Nat) (Ac:Option Addr) (cc:Nat) (ins:List (List Cl)) (AH:Option Addr) (ch:Nat) (w:World) (hH:aW w AH ins) (hi:ins.length=1) (ho:outs.length=1)
  (hf:∀ A d W,(ins.getD 0 []).length≤d→Rd w [] 2 A (ins.getD 0 []).length (ah (ins.getD 0 []))→aa [] w W→Calls zy 82 #[gG (⟨at_,1,outs,js,cols,op,⟨J,M,ln,U⟩,⟨rc,Z,O,D⟩,B⟩:Jb) Ao co Ai ni ci Ac cc,zR A (ins.getD 0 []).length d] W fun e w'=>aP (bM (⟨at_,1,outs,js,cols,op,⟨J,M,ln,U⟩,⟨rc,Z,O,D⟩,B⟩:Jb) (ins.getD 0 [])) e w'∧aa [] W w') :
  Calls zy 33 #[.agg #[zW zX at_,zW zX 1,zR Ao outs.length co,zR Ai ni ci,zR Ac cols.length cc,zQ (bs op),zQ (bs J),zW zX M,zW zX ln,zQ (bs U),zQ (bs rc),zW zX Z,zW zX O,zQ (bs D),zW zX B],zR AH ins.length ch] w fun e w'=>aP (bM (⟨at_,1,outs,js,cols,op,⟨J,M,ln,U⟩,⟨rc,Z,O,D⟩,B⟩:Jb) (ins.getD 0 [])) e w'∧aa [] w w':=by
 obtain ⟨b,o,A,d,rfl,hb,a1,hd,hA⟩:=hH.first (by omega) (by omega);have HF:=zx (fun W=>hf A d W hd hA);clear hf hA hH;generalize bM (⟨at_,1,outs,js,cols,op,⟨J,M,ln,U⟩,⟨rc,Z,O,D⟩,B⟩:Jb) (ins.getD 0 [])=R at *;have HF':Hid (∀ W,aa [] w W→Calls zy 82 #[.agg #[zW zX at_,zW zX 1,zR Ao outs.length co,zR Ai ni ci,zR Ac cols.length cc,zQ (bs op),zQ (bs J),zW zX M,zW zX ln,zQ (bs U),zQ (bs rc),zW zX Z,zW zX O,zQ (bs D),zW zX B],zR A (ins.getD 0 []).length d] W fun e w'=>aP R e w'∧aa [] W w'):=HF;clear HF;generalize (ins.getD 0 []).length=n at *;have HS:Hid (∀ W,Calls zy 31 #[zW zX 1] W fun e W'=>e=zT (.tuple #[zW zX 1,zW zX 1])∧W=W'):=zx fun W=>by
  have h:=df 1 W;rw[show aF 1=(1,1) by decide] at h;exact h
 rw[hi];rw[ho] at HF' ⊢;clear hi ho;go_enter Tryz.func33,Tryz.ntmps33
 go_wp2_with (go_at_call 31;refine (HS.out _).mono ?_;rintro e w6 ⟨rfl,rfl⟩)
 refine (HF'.out _ ((zN _ _).alloc _)).mono ?_;rintro e w3 ⟨I,ad⟩;obtain ⟨u,v,rfl,I⟩:=I.split;have aA:=zx I;have a0:=zx (((zN _ _).alloc _).trans ad);clear ad I;go_wp2;go_ret2;exact ⟨aA.out,a0.out⟩
theorem xz (at_ B M ln Z O:Int) (outs js cols:List Bs) (op J U rc D:Bs) (Ao:Option Addr) (co:Nat) (Ai:Option Addr) (ni ci:Nat) (Ac:Option Addr) (cc:Nat) (ins:List (List Cl)) (AH:Option Addr) (ch:Nat) (w:World) (hH:aW w AH ins) (hi:ins.length=1) (ho:outs.length=2)
  (hf:∀ A d W,(ins.getD 0 []).length≤d→Rd w [] 2 A (ins.getD 0 []).length (ah (ins.getD 0 []))→aa [] w W→Calls zy 82 #[gG (⟨at_,9,outs,js,cols,op,⟨J,M,ln,U⟩,⟨rc,Z,O,D⟩,B⟩:Jb) Ao co Ai ni ci Ac cc,zR A (ins.getD 0 []).length d] W fun e w'=>aP (bM (⟨at_,9,outs,js,cols,op,⟨J,M,ln,U⟩,⟨rc,Z,O,D⟩,B⟩:Jb) (ins.getD 0 [])) e w'∧aa [] W w') :
  Calls zy 33 #[.agg #[zW zX at_,zW zX 9,zR Ao outs.length co,zR Ai ni ci,zR Ac cols.length cc,zQ (bs op),zQ (bs J),zW zX M,zW zX ln,zQ (bs U),zQ (bs rc),zW zX Z,zW zX O,zQ (bs D),zW zX B],zR AH ins.length ch] w fun e w'=>aP (bM (⟨at_,9,outs,js,cols,op,⟨J,M,ln,U⟩,⟨rc,Z,O,D⟩,B⟩:Jb) (ins.getD 0 [])) e w'∧aa [] w w':=by
 obtain ⟨b,o,A,d,rfl,hb,a1,hd,hA⟩:=hH.first (by omega) (by omega);have HF:=zx (fun W=>hf A d W hd hA);clear hf hA hH;generalize bM (⟨at_,9,outs,js,cols,op,⟨J,M,ln,U⟩,⟨rc,Z,O,D⟩,B⟩:Jb) (ins.getD 0 [])=R at *;have HF':Hid (∀ W,aa [] w W→Calls zy 82 #[.agg #[zW zX at_,zW zX 9,zR Ao outs.length co,zR Ai ni ci,zR Ac cols.length cc,zQ (bs op),zQ (bs J),zW zX M,zW zX ln,zQ (bs U),zQ (bs rc),zW zX Z,zW zX O,zQ (bs D),zW zX B],zR A (ins.getD 0 []).length d] W fun e w'=>aP R e w'∧aa [] W w'):=HF;clear HF;generalize (ins.getD 0 []).length=n at *;have HS:Hid (∀ W,Calls zy 31 #[zW zX 9] W fun e W'=>e=zT (.tuple #[zW zX 1,zW zX 2])∧W=W'):=zx fun W=>by
  have h:=df 9 W;rw[show aF 9=(1,2) by decide] at h;exact h
 rw[hi];rw[ho] at HF' ⊢;clear hi ho;go_enter Tryz.func33,Tryz.ntmps33
 go_wp2_with (go_at_call 31;refine (HS.out _).mono ?_;rintro e w6 ⟨rfl,rfl⟩)
 refine (HF'.out _ ((zN _ _).alloc _)).mono ?_;rintro e w3 ⟨I,ad⟩;obtain ⟨u,v,rfl,I⟩:=I.split;have aA:=zx I;have a0:=zx (((zN _ _).alloc _).trans ad);clear ad I;go_wp2;go_ret2;exact ⟨aA.out,a0.out⟩
theorem xA (at_ B M ln Z O:Int) (outs js cols:List Bs) (op J U rc D:Bs) (Ao:Option Addr) (co:Nat) (Ai:Option Addr) (ni ci:Nat) (Ac:Option Addr) (cc:Nat) (ins:List (List Cl)) (AH:Option Addr) (ch:Nat) (w:World) (hH:aW w AH ins) (hi:ins.length=1) (ho:outs.length=1)
  (hf:∀ A d W,(ins.getD 0 []).length≤d→Rd w [] 2 A (ins.getD 0 []).length (ah (ins.getD 0 []))→aa [] w W→Calls zy 83 #[gG (⟨at_,2,outs,js,cols,op,⟨J,M,ln,U⟩,⟨rc,Z,O,D⟩,B⟩:Jb) Ao co Ai ni ci Ac cc,zR A (ins.getD 0 []).length d] W fun e w'=>aP (iU (⟨at_,2,outs,js,cols,op,⟨J,M,ln,U⟩,⟨rc,Z,O,D⟩,B⟩:Jb) (ins.getD 0 [])) e w'∧aa [] W w') :
  Calls zy 33 #[.agg #[zW zX at_,zW zX 2,zR Ao outs.length co,zR Ai ni ci,zR Ac cols.length cc,zQ (bs op),zQ (bs J),zW zX M,zW zX ln,zQ (bs U),zQ (bs rc),zW zX Z,zW zX O,zQ (bs D),zW zX B],zR AH ins.length ch] w fun e w'=>aP (iU (⟨at_,2,outs,js,cols,op,⟨J,M,ln,U⟩,⟨rc,Z,O,D⟩,B⟩:Jb) (ins.getD 0 [])) e w'∧aa [] w w':=by
 obtain ⟨b,o,A,d,rfl,hb,a1,hd,hA⟩:=hH.first (by omega) (by omega);have HF:=zx (fun W=>hf A d W hd hA);clear hf hA hH;generalize iU (⟨at_,2,outs,js,cols,op,⟨J,M,ln,U⟩,⟨rc,Z,O,D⟩,B⟩:Jb) (ins.getD 0 [])=R at *;have HF':Hid (∀ W,aa [] w W→Calls zy 83 #[.agg #[zW zX at_,zW zX 2,zR Ao outs.length co,zR Ai ni ci,zR Ac cols.length cc,zQ (bs op),zQ (bs J),zW zX M,zW zX ln,zQ (bs U),zQ (bs rc),zW zX Z,zW zX O,zQ (bs D),zW zX B],zR A (ins.getD 0 []).length d] W fun e w'=>aP R e w'∧aa [] W w'):=HF;clear HF;generalize (ins.getD 0 []).length=n at *;have HS:Hid (∀ W,Calls zy 31 #[zW zX 2] W fun e W'=>e=zT (.tuple #[zW zX 1,zW zX 1])∧W=W'):=zx fun W=>by
  have h:=df 2 W;rw[show aF 2=(1,1) by decide] at h;exact h
 rw[hi];rw[ho] at HF' ⊢;clear hi ho;go_enter Tryz.func33,Tryz.ntmps33
 go_wp2_with (go_at_call 31;refine (HS.out _).mono ?_;rintro e w6 ⟨rfl,rfl⟩)
 refine (HF'.out _ ((zN _ _).alloc _)).mono ?_;rintro e w3 ⟨I,ad⟩;obtain ⟨u,v,rfl,I⟩:=I.split;have aA:=zx I;have a0:=zx (((zN _ _).alloc _).trans ad);clear ad I;go_wp2;go_ret2;exact ⟨aA.out,a0.out⟩
theorem xB (at_ B M ln Z O:Int) (outs js cols:List Bs) (op J U rc D:Bs) (Ao:Option Addr) (co:Nat) (Ai:Option Addr) (ni ci:Nat) (Ac:Option Addr) (cc:Nat) (ins:List (List Cl)) (AH:Option Addr) (ch:Nat) (w:World) (hH:aW w AH ins) (hi:ins.length=1) (ho:outs.length=1)
  (hf:∀ A d W,(ins.getD 0 []).length≤d→Rd w [] 2 A (ins.getD 0 []).length (ah (ins.getD 0 []))→aa [] w W→Calls zy 84 #[gG (⟨at_,3,outs,js,cols,op,⟨J,M,ln,U⟩,⟨rc,Z,O,D⟩,B⟩:Jb) Ao co Ai ni ci Ac cc,zR A (ins.getD 0 []).length d] W fun e w'=>aP (bT (⟨at_,3,outs,js,cols,op,⟨J,M,ln,U⟩,⟨rc,Z,O,D⟩,B⟩:Jb) (ins.getD 0 [])) e w'∧aa [] W w') :
  Calls zy 33 #[.agg #[zW zX at_,zW zX 3,zR Ao outs.length co,zR Ai ni ci,zR Ac cols.length cc,zQ (bs op),zQ (bs J),zW zX M,zW zX ln,zQ (bs U),zQ (bs rc),zW zX Z,zW zX O,zQ (bs D),zW zX B],zR AH ins.length ch] w fun e w'=>aP (bT (⟨at_,3,outs,js,cols,op,⟨J,M,ln,U⟩,⟨rc,Z,O,D⟩,B⟩:Jb) (ins.getD 0 [])) e w'∧aa [] w w':=by
 obtain ⟨b,o,A,d,rfl,hb,a1,hd,hA⟩:=hH.first (by omega) (by omega);have HF:=zx (fun W=>hf A d W hd hA);clear hf hA hH;generalize bT (⟨at_,3,outs,js,cols,op,⟨J,M,ln,U⟩,⟨rc,Z,O,D⟩,B⟩:Jb) (ins.getD 0 [])=R at *;have HF':Hid (∀ W,aa [] w W→Calls zy 84 #[.agg #[zW zX at_,zW zX 3,zR Ao outs.length co,zR Ai ni ci,zR Ac cols.length cc,zQ (bs op),zQ (bs J),zW zX M,zW zX ln,zQ (bs U),zQ (bs rc),zW zX Z,zW zX O,zQ (bs D),zW zX B],zR A (ins.getD 0 []).length d] W fun e w'=>aP R e w'∧aa [] W w'):=HF;clear HF;generalize (ins.getD 0 []).length=n at *;have HS:Hid (∀ W,Calls zy 31 #[zW zX 3] W fun e W'=>e=zT (.tuple #[zW zX 1,zW zX 1])∧W=W'):=zx fun W=>by
  have h:=df 3 W;rw[show aF 3=(1,1) by decide] at h;exact h
 rw[hi];rw[ho] at HF' ⊢;clear hi ho;go_enter Tryz.func33,Tryz.ntmps33
 go_wp2_with (go_at_call 31;refine (HS.out _).mono ?_;rintro e w6 ⟨rfl,rfl⟩)
 refine (HF'.out _ ((zN _ _).alloc _)).mono ?_;rintro e w3 ⟨I,ad⟩;obtain ⟨u,v,rfl,I⟩:=I.split;have aA:=zx I;have a0:=zx (((zN _ _).alloc _).trans ad);clear ad I;go_wp2;go_ret2;exact ⟨aA.out,a0.out⟩
theorem xC (at_ B M ln Z O:Int) (outs js cols:List Bs) (op J U rc D:Bs) (Ao:Option Addr) (co:Nat) (Ai:Option Addr) (ni ci:Nat) (Ac:Option Addr) (cc:Nat) (ins:List (List Cl)) (AH:Option Addr) (ch:Nat) (w:World) (hH:aW w AH ins) (hi:ins.length=1) (ho:outs.length=1)
  (hf:∀ A d W,(ins.getD 0 []).length≤d→Rd w [] 2 A (ins.getD 0 []).length (ah (ins.getD 0 []))→aa [] w W→Calls zy 84 #[gG (⟨at_,4,outs,js,cols,op,⟨J,M,ln,U⟩,⟨rc,Z,O,D⟩,B⟩:Jb) Ao co Ai ni ci Ac cc,zR A (ins.getD 0 []).length d] W fun e w'=>aP (bT (⟨at_,4,outs,js,cols,op,⟨J,M,ln,U⟩,⟨rc,Z,O,D⟩,B⟩:Jb) (ins.getD 0 [])) e w'∧aa [] W w') :
  Calls zy 33 #[.agg #[zW zX at_,zW zX 4,zR Ao outs.length co,zR Ai ni ci,zR Ac cols.length cc,zQ (bs op),zQ (bs J),zW zX M,zW zX ln,zQ (bs U),zQ (bs rc),zW zX Z,zW zX O,zQ (bs D),zW zX B],zR AH ins.length ch] w fun e w'=>aP (bT (⟨at_,4,outs,js,cols,op,⟨J,M,ln,U⟩,⟨rc,Z,O,D⟩,B⟩:Jb) (ins.getD 0 [])) e w'∧aa [] w w':=by
 obtain ⟨b,o,A,d,rfl,hb,a1,hd,hA⟩:=hH.first (by omega) (by omega);have HF:=zx (fun W=>hf A d W hd hA);clear hf hA hH;generalize bT (⟨at_,4,outs,js,cols,op,⟨J,M,ln,U⟩,⟨rc,Z,O,D⟩,B⟩:Jb) (ins.getD 0 [])=R at *;have HF':Hid (∀ W,aa [] w W→Calls zy 84 #[.agg #[zW zX at_,zW zX 4,zR Ao outs.length co,zR Ai ni ci,zR Ac cols.length cc,zQ (bs op),zQ (bs J),zW zX M,zW zX ln,zQ (bs U),zQ (bs rc),zW zX Z,zW zX O,zQ (bs D),zW zX B],zR A (ins.getD 0 []).length d] W fun e w'=>aP R e w'∧aa [] W w'):=HF;clear HF;generalize (ins.getD 0 []).length=n at *;have HS:Hid (∀ W,Calls zy 31 #[zW zX 4] W fun e W'=>e=zT (.tuple #[zW zX 1,zW zX 1])∧W=W'):=zx fun W=>by
  have h:=df 4 W;rw[show aF 4=(1,1) by decide] at h;exact h
 rw[hi];rw[ho] at HF' ⊢;clear hi ho;go_enter Tryz.func33,Tryz.ntmps33
 go_wp2_with (go_at_call 31;refine (HS.out _).mono ?_;rintro e w6 ⟨rfl,rfl⟩)
 refine (HF'.out _ ((zN _ _).alloc _)).mono ?_;rintro e w3 ⟨I,ad⟩;obtain ⟨u,v,rfl,I⟩:=I.split;have aA:=zx I;have a0:=zx (((zN _ _).alloc _).trans ad);clear ad I;go_wp2;go_ret2;exact ⟨aA.out,a0.out⟩
theorem xD (at_ B M ln Z O:Int) (outs js cols:List Bs) (op J U rc D:Bs) (Ao:Option Addr) (co:Nat) (Ai:Option Addr) (ni ci:Nat) (Ac:Option Addr) (cc:Nat) (ins:List (List Cl)) (AH:Option Addr) (ch:Nat) (w:World) (hH:aW w AH ins) (hi:ins.length=1) (ho:outs.length=1)
  (hf:∀ A d W,(ins.getD 0 []).length≤d→Rd w [] 2 A (ins.getD 0 []).length (ah (ins.getD 0 []))→aa [] w W→Calls zy 87 #[gG (⟨at_,8,outs,js,cols,op,⟨J,M,ln,U⟩,⟨rc,Z,O,D⟩,B⟩:Jb) Ao co Ai ni ci Ac cc,zR A (ins.getD 0 []).length d] W fun e w'=>aP (cC (⟨at_,8,outs,js,cols,op,⟨J,M,ln,U⟩,⟨rc,Z,O,D⟩,B⟩:Jb) (ins.getD 0 [])) e w'∧aa [] W w') :
  Calls zy 33 #[.agg #[zW zX at_,zW zX 8,zR Ao outs.length co,zR Ai ni ci,zR Ac cols.length cc,zQ (bs op),zQ (bs J),zW zX M,zW zX ln,zQ (bs U),zQ (bs rc),zW zX Z,zW zX O,zQ (bs D),zW zX B],zR AH ins.length ch] w fun e w'=>aP (cC (⟨at_,8,outs,js,cols,op,⟨J,M,ln,U⟩,⟨rc,Z,O,D⟩,B⟩:Jb) (ins.getD 0 [])) e w'∧aa [] w w':=by
 obtain ⟨b,o,A,d,rfl,hb,a1,hd,hA⟩:=hH.first (by omega) (by omega);have HF:=zx (fun W=>hf A d W hd hA);clear hf hA hH;generalize cC (⟨at_,8,outs,js,cols,op,⟨J,M,ln,U⟩,⟨rc,Z,O,D⟩,B⟩:Jb) (ins.getD 0 [])=R at *;have HF':Hid (∀ W,aa [] w W→Calls zy 87 #[.agg #[zW zX at_,zW zX 8,zR Ao outs.length co,zR Ai ni ci,zR Ac cols.length cc,zQ (bs op),zQ (bs J),zW zX M,zW zX ln,zQ (bs U),zQ (bs rc),zW zX Z,zW zX O,zQ (bs D),zW zX B],zR A (ins.getD 0 []).length d] W fun e w'=>aP R e w'∧aa [] W w'):=HF;clear HF;generalize (ins.getD 0 []).length=n at *;have HS:Hid (∀ W,Calls zy 31 #[zW zX 8] W fun e W'=>e=zT (.tuple #[zW zX 1,zW zX 1])∧W=W'):=zx fun W=>by
  have h:=df 8 W;rw[show aF 8=(1,1) by decide] at h;exact h
 rw[hi];rw[ho] at HF' ⊢;clear hi ho;go_enter Tryz.func33,Tryz.ntmps33
 go_wp2_with (go_at_call 31;refine (HS.out _).mono ?_;rintro e w6 ⟨rfl,rfl⟩)
 refine (HF'.out _ ((zN _ _).alloc _)).mono ?_;rintro e w3 ⟨I,ad⟩;obtain ⟨u,v,rfl,I⟩:=I.split;have aA:=zx I;have a0:=zx (((zN _ _).alloc _).trans ad);clear ad I;go_wp2;go_ret2;exact ⟨aA.out,a0.out⟩
theorem qe (w:World) (o:Obj):(w.alloc o).heap.size=w.heap.size+1:=by
 show (w.heap.push o).size=_;simp
theorem xE (at_ B O ln rk Z:Int) (outs ad cols:List Bs) (op M lw rc D:Bs) (Ao:Option Addr) (co:Nat) (U:Option Addr) (ni ci:Nat) (Ac:Option Addr) (cc:Nat) (ins:List (List Cl)) (AH:Option Addr) (ch:Nat) (w:World) (hH:aW w AH ins) (hi:ins.length=1) (ho:outs.length=1) :
  Calls zy 33 #[.agg #[zW zX at_,zW zX 6,zR Ao outs.length co,zR U ni ci,zR Ac cols.length cc,zQ (bs op),zQ (bs M),zW zX O,zW zX ln,zQ (bs lw),zQ (bs rc),zW zX rk,zW zX Z,zQ (bs D),zW zX B],zR AH ins.length ch] w fun e w'=>aP (.ok [ins.getD 0 []]) e w'∧aa [] w w':=by
 obtain ⟨b,o,A,d,rfl,hb,aA,hd,hA⟩:=hH.first (by omega) (by omega);clear hH;have HS:Hid (∀ W,Calls zy 31 #[zW zX 6] W fun e W'=>e=zT (.tuple #[zW zX 1,zW zX 1])∧W=W'):=zx fun W=>by
  have h:=df 6 W;rw[show aF 6=(1,1) by decide] at h;exact h
 rw[hi,ho];clear hi ho;have HA:=zx hA;have HD:=zx hd;generalize ins.getD 0 []=l at *;clear hA hd;have J:Hid (aa [] w (w.alloc (zU #[zW zX at_,zW zX 6,zR Ao 1 co,zR U ni ci,zR Ac cols.length cc,zQ (bs op),zQ (bs M),zW zX O,zW zX ln,zQ (bs lw),zQ (bs rc),zW zX rk,zW zX Z,zQ (bs D),zW zX B] 59))):=zx ((zN _ _).alloc _);have I:=zx (cU (HA.out.keep J.out) HD.out 22);rw[qe] at I;go_enter Tryz.func33,Tryz.ntmps33
 go_wp2_with (go_at_call 31;refine (HS.out _).mono ?_;rintro e w6 ⟨rfl,rfl⟩)
 go_ret2;exact ⟨⟨_,_,rfl,zz _,I.out⟩,J.out.alloc _⟩
theorem xF (at_ J lk ln rk rn:Int) (outs a3 cols:List Bs) (op lc lw rc aA:Bs) (Ao:Option Addr) (co:Nat) (Ai:Option Addr) (ni ci:Nat) (Ac:Option Addr) (cc:Nat) (ins:List (List Cl)) (AH:Option Addr) (ch:Nat) (w:World) (hH:aW w AH ins) (Z:∀ l∈ins,l.length≤4294967296) (hi:ins.length=2) (ho:outs.length=1) :
  Calls zy 33 #[.agg #[zW zX at_,zW zX 5,zR Ao outs.length co,zR Ai ni ci,zR Ac cols.length cc,zQ (bs op),zQ (bs lc),zW zX lk,zW zX ln,zQ (bs lw),zQ (bs rc),zW zX rk,zW zX rn,zQ (bs aA),zW zX J],zR AH ins.length ch] w fun e w'=>aP (if ins.getD 0 []≠ins.getD 1 [] then .error 13 else .ok [ins.getD 0 []]) e w'∧aa [] w w':=by
 obtain ⟨b,o,A,d,rfl,hb,a5,hd,hA⟩:=hH.first (by omega) (by omega);obtain ⟨B,dB,a4,a1,hB⟩:=hH.second (by omega) (by omega);clear hH;have ad:(ins.getD 0 []).length≤4294967296:=Z _ (by rw[zM,zI (by omega)];exact zH _);have a0:(ins.getD 1 []).length≤4294967296:=Z _ (by rw[zM,zI (by omega)];exact zH _);have HS:Hid (∀ W,Calls zy 31 #[zW zX 5] W fun e W'=>e=zT (.tuple #[zW zX 2,zW zX 1])∧W=W'):=zx fun W=>by
  have h:=df 5 W;rw[show aF 5=(2,1) by decide] at h;exact h
 rw[hi,ho];clear hi ho Z;have M:=zx (fun W (q:aa [] w W)=>qd (ins.getD 0 []) (ins.getD 1 []) A B d dB W (hA.keep q) (hB.keep q) ad a0);have HA:=zx hA;have HD:=zx hd;generalize ins.getD 0 []=l at *;generalize ins.getD 1 []=m at *;clear hA hd hB ad a0 a1;have O:Hid (aa [] w (w.alloc (zU #[zW zX at_,zW zX 5,zR Ao 1 co,zR Ai ni ci,zR Ac cols.length cc,zQ (bs op),zQ (bs lc),zW zX lk,zW zX ln,zQ (bs lw),zQ (bs rc),zW zX rk,zW zX rn,zQ (bs aA),zW zX J] 59))):=zx ((zN _ _).alloc _);by_cases D:l=m
 ·rw[decide_eq_true D] at M
  rw[if_neg (fun h=>h D)];clear D;go_enter Tryz.func33,Tryz.ntmps33
  go_wp2_with (go_at_call 31;refine (HS.out _).mono ?_;rintro e w6 ⟨rfl,rfl⟩)
  refine (M.out _ O.out).mono ?_;rintro e w3 ⟨rfl,I⟩;have U:=zx (O.out.trans I);clear I;have a2:=zx (cU (HA.out.keep U.out) HD.out 22);go_wp2;go_ret2;exact ⟨⟨_,_,rfl,zz _,a2.out⟩,U.out.alloc _⟩
 rw[decide_eq_false D] at M;rw[if_pos D];clear D;go_enter Tryz.func33,Tryz.ntmps33
 go_wp2_with (go_at_call 31;refine (HS.out _).mono ?_;rintro e w6 ⟨rfl,rfl⟩)
 refine (M.out _ O.out).mono ?_;rintro e w3 ⟨rfl,I⟩;have U:=zx (O.out.trans I);clear I;go_wp2;go_ret2;exact ⟨rfl,U.out⟩
theorem oQ (at_ code D lk ln rk rn:Int) (outs ad cols:List Bs) (op lc lw rc U:Bs) (Ao:Option Addr) (co:Nat) (Ai:Option Addr) (ni ci:Nat) (Ac:Option Addr) (cc:Nat) (ins:List (List Cl)) (AH:Option Addr) (ch:Nat) (w:World) (A:(aF code).1=0∨ins.length≠(aF code).1∨outs.length≠(aF code).2) :
  Calls zy 33 #[.agg #[zW zX at_,zW zX code,zR Ao outs.length co,zR Ai ni ci,zR Ac cols.length cc,zQ (bs op),zQ (bs lc),zW zX lk,zW zX ln,zQ (bs lw),zQ (bs rc),zW zX rk,zW zX rn,zQ (bs U),zW zX D],zR AH ins.length ch] w fun e w'=>aP (.error 1) e w'∧aa [] w w':=by
 have Z:=zx (fun W=>df code W);generalize aF code=s at *;obtain ⟨s1,s2⟩:=s;simp only at A Z;have O:∃ B b2 I,((s1:Int)==0)=B∧((ins.length:Int) != (s1:Int))=b2∧((outs.length:Int) != (s2:Int))=I∧(B=true∨b2=true∨I=true):=⟨_,_,_,rfl,rfl,rfl,by
  rcases A with h|h|h
  ·exact .inl (by rw[h];rfl)
  ·exact .inr (.inl (by rw[bne_iff_ne];omega))
  exact .inr (.inr (by rw[bne_iff_ne];omega))⟩
 obtain ⟨B,b2,I,t1,t2,t3,J⟩:=O;clear A;have M:(B=true)∨(B=false∧b2=true)∨(B=false∧b2=false∧I=true):=by
  cases B<;>cases b2<;>cases I<;>simp at J ⊢
 clear J;rcases M with rfl|⟨rfl,rfl⟩|⟨rfl,rfl,rfl⟩
 all_goals
  go_enter Tryz.func33,Tryz.ntmps33
  go_wp2_with (go_at_call 31;refine (Z.out _).mono ?_;rintro e w6 ⟨rfl,rfl⟩)
  go_ret2;exact ⟨rfl,(zN _ _).alloc _⟩
theorem rU {code:Int} (h:(aF code).1≠0):code=5∨code=7∨code=9∨code=1∨code=2∨code=3∨code=4∨code=6∨code=8:=by
 unfold aF at h;split at h
 ·omega
 split at h
 ·omega
 split at h
 ·omega
 exact absurd rfl h
theorem tD (j:Jb) (O:Option Addr) (J:Nat) (U:Option Addr) (Z ci:Nat) (M:Option Addr) (cc:Nat) (ins:List (List Cl)) (AH:Option Addr) (ch:Nat) (w:World) (hE:nY w) (hJ:fd w j O J M cc) (hH:aW w AH ins) (a1:∀ l∈ins,l.length≤4294967296) (h7:j.code≠7)
  (h8:j.code=8→∀ A d W,(ins.getD 0 []).length≤d→Rd w [] 2 A (ins.getD 0 []).length (ah (ins.getD 0 []))→aa [] w W→Calls zy 87 #[gG j O J U Z ci M cc,zR A (ins.getD 0 []).length d] W fun e w'=>aP (cC j (ins.getD 0 [])) e w'∧aa [] W w') :
  Calls zy 33 #[gG j O J U Z ci M cc,zR AH ins.length ch] w fun e w'=>aP (cA j ins) e w'∧aa [] w w':=by
 unfold cA;by_cases D:(aF j.code).1=0∨ins.length≠(aF j.code).1∨j.outs.length≠(aF j.code).2
 ·rw[if_pos D]
  obtain ⟨at_,code,outs,js,cols,op,⟨lc,lk,ln,lw⟩,⟨rc,rk,rn,I⟩,B⟩:=j;exact oQ _ _ _ _ _ _ _ _ js _ _ _ _ _ _ _ _ _ _ _ _ _ _ _ _ _ D
 rw[if_neg D];have h0:(aF j.code).1≠0:=fun h=>D (.inl h)
 have hi:ins.length=(aF j.code).1:=Decidable.byContradiction fun h=>D (.inr (.inl h))
 have ho:j.outs.length=(aF j.code).2:=Decidable.byContradiction fun h=>D (.inr (.inr h))
 have aA:(ins.getD 0 []).length≤4294967296:=a1 _ (by rw[zM,zI (by omega)];exact zH _);have a0:=fun A d W (h1:(ins.getD 0 []).length≤d) (h2:Rd w [] 2 A (ins.getD 0 []).length (ah (ins.getD 0 []))) (q:aa [] w W)=>nZ j (ins.getD 0 []) O J U Z ci M cc A d W (hE.quiet q) (h2.keep q) h1 aA
 have a3:=fun A d W (h1:(ins.getD 0 []).length≤d) (h2:Rd w [] 2 A (ins.getD 0 []).length (ah (ins.getD 0 []))) (q:aa [] w W)=>u5 j (ins.getD 0 []) O J U Z ci M cc A d W (hJ.quiet q) (h2.keep q) h1 aA
 have a2:=fun A d W (h1:(ins.getD 0 []).length≤d) (h2:Rd w [] 2 A (ins.getD 0 []).length (ah (ins.getD 0 []))) (q:aa [] w W)=>qc j (ins.getD 0 []) O J U Z ci M cc A d W (hJ.quiet q) (h2.keep q) h1 aA
 have ad:=rU h0;clear D h0 hE hJ;obtain ⟨at_,code,outs,js,cols,op,⟨lc,lk,ln,lw⟩,⟨rc,rk,rn,I⟩,B⟩:=j;simp only at h7 h8 hi ho ad ⊢;rcases ad with rfl|rfl|rfl|rfl|rfl|rfl|rfl|rfl|rfl
 ·exact xF at_ B lk ln rk rn outs js cols op lc lw rc I O J U Z ci M cc ins AH ch w hH a1 hi ho
 ·exact absurd rfl h7
 ·exact xz at_ B lk ln rk rn outs js cols op lc lw rc I O J U Z ci M cc ins AH ch w hH hi ho a0
 ·exact xy at_ B lk ln rk rn outs js cols op lc lw rc I O J U Z ci M cc ins AH ch w hH hi ho a0
 ·exact xA at_ B lk ln rk rn outs js cols op lc lw rc I O J U Z ci M cc ins AH ch w hH hi ho a3
 ·exact xB at_ B lk ln rk rn outs js cols op lc lw rc I O J U Z ci M cc ins AH ch w hH hi ho a2
 ·exact xC at_ B lk ln rk rn outs js cols op lc lw rc I O J U Z ci M cc ins AH ch w hH hi ho a2
 ·exact xE at_ B lk ln rk rn outs js cols op lc lw rc I O J U Z ci M cc ins AH ch w hH hi ho
 exact xD at_ B lk ln rk rn outs js cols op lc lw rc I O J U Z ci M cc ins AH ch w hH hi ho (h8 rfl)
end
section
open Go.RowKit
attribute [local go_sem] ag ab ae af
theorem oR:(Tryz.prog.info? 109).map (fun i=>(i.zero,i.size,i.bytes))=some (some (.agg #[zQ ⟨#[]⟩,zW zX 0]),2,24):=by kernel_rfl
theorem rV (n:Nat) (hn:n≤4294967296) (w:World) :
  Calls zy 185 #[zR none 0 0,zW zX (n:Int)] w fun e w'=>(∃ v,e=zT v∧w'.ownsRow w.heap.size 109 2 v 0 [])∧aa [] w w':=by
 by_cases h0:n=0
 ·subst h0
  go_enter Tryz.func185,Tryz.ntmps185
  go_wp2;go_ret;exact ⟨⟨_,rfl,World.ownsRow_nil _ _ _ _⟩,zN _ _⟩
 obtain ⟨i0,hi,D,I,A⟩:=info_parts oR;have h:=Lib.run_append_grow_zeros w 22 3 22 109 i0 _ .i64 .i64 Tryz.underlying22 Tryz.underlying3 hi D none 0 0 [] (run_firstCells_none w.drew _ 0 0 0) n (by omega) (by rw[I];decide) (by omega) (by omega) (by rw[A];omega) (growslice_fits (by omega) (by rw[A];omega));have U:grownCap w (0+n) 0 109≤maxLen:=grownCap_le_maxLen w (0+n) 0 109 (by unfold maxLen;omega);have M:0+n≤grownCap w (0+n) 0 109:=grownCap_ge w _ _ _;rw[Nat.zero_add] at h U M;obtain ⟨G,O⟩:∃ G,grownCap w n 0 109=G:=⟨_,rfl⟩
 rw[O] at h U M;obtain ⟨cs,B⟩:∃ cs,(([]:List Value).toArray++Builtin.zeroCells (.agg #[zQ ⟨#[]⟩,zW zX 0]:Value).cells n++Builtin.zeroCells (.agg #[zQ ⟨#[]⟩,zW zX 0]:Value).cells (G-n))=cs:=⟨_,rfl⟩
 rw[B] at h;have J:cs.size=G*2:=by
  rw[←B];simp[Builtin.zeroCells,Value.cells];omega
 have HZ:=zx (rR (w:=w.drew) (e:=109) (size:=2) J U);have Z:=zx h;have h1:¬((n:Int)<0):=by omega
 have h4:(0:Int)<(n:Int):=by omega
 have ad:G≤9223372036854775807:=by unfold maxLen at U;omega
 clear h B J O hi D I A;go_enter Tryz.func185,Tryz.ntmps185
 go_wp2_with (at_builtin;refine Lib.wpList_append_run _ rfl _ _ _ _ rfl _ _ rfl rfl _ _ Z.out ?_)
 go_ret;exact ⟨⟨_,rfl,HZ.out⟩,((zN [] w).drew).alloc _⟩
theorem oS (B:List (Nat×List Value)) (us:List Value) (A0:Option Addr) (k0:Nat) (w:World) (a2:us.length=B.length) (hB:Rd w [] 1 A0 B.length us) (hu:∀ i (h:i<us.length) (h':i<B.length),zc w 2 us[i] B[i]) (hl:B.length≤4294967296) (I:gV B B.length≤4294967296) (Z:∀ p∈B,∀ x∈p.2,x.oneCell'=true) :
  Calls zy 135 #[zR A0 B.length k0] w fun e w'=>(∃ v,e=zT v∧w'.ownsRow w.heap.size 109 2 v (gV B B.length) (oP B B.length))∧aa [] w w':=by
 obtain ⟨ie,bd,a6,a5,a4⟩:=info_parts oR;have HB:=zx hB;have HU:=zx hu;have a3:=zx a2;have a8:=zx (fun m (h:m≤B.length)=>zA (u7 B h) I);have a9:=zx Z;have aA:=zx (rV (gV B B.length) I w);clear hB hu Z a2 I;go_enter Tryz.func135,Tryz.ntmps135
 go_wp2;go_loop [3,11] (fun s i=>∃ m:Nat,m≤B.length∧i=zW zX m∧s=zW zX (gV B m:Nat)) (fun _ i=>B.length-(intOf i).toNat)
 case atStart=>exact ⟨0,zE _,rfl,rfl⟩
 obtain ⟨m,hm,rfl,rfl⟩:=hrel;by_cases D:m<B.length
 ·obtain ⟨b,o,rfl,_,hb,hc⟩:=HB.out.open' (by omega) (by omega)
  have J:m<us.length:=by rw[a3.out];exact D
  have d1:=hc m _ (zI J);obtain ⟨A,c,he,hr⟩:=HU.out m J D;rw[he] at d1;have HS:=zx (ik B m D);have M:=a8.out (m+1) (by omega);rw[HS.out] at M;clear hc he hr;generalize gV B m=a at *;generalize B[m].1=n at *;have bj:¬((a:Int)+(n:Int)<0):=by omega
  go_wp2;go_round
  case rel=>exact ⟨m+1,by omega,by go_num,by rw[HS.out];go_num⟩
  case measure=>simp[intOf];omega
 obtain rfl:m=B.length:=by omega
 go_wp2_with fail
 refine aA.out.mono ?_;rintro e w2 ⟨⟨v0,rfl,ad⟩,a1⟩;have ba:=zx ad;have bb:=zx a1;clear ad a1 aA;go_wp2;go_loopw [6,27] (fun u i wx=>∃ (m:Nat) (v:Value),v=u∧m≤B.length∧i=zW zX m∧wx.ownsRow w.heap.size 109 2 v (gV B m) (oP B m)∧aa [] w wx) (fun _ i _=>B.length-(intOf i).toNat)
 case atStart=>exact ⟨0,v0,rfl,zE _,rfl,ba.out,bb.out⟩
 obtain ⟨m,v,rfl,bk,rfl,O,hk⟩:=hrel;have HK:=zx hk;have HO:=zx O;clear hk O;by_cases D:m<B.length
 ·obtain ⟨b,o,rfl,_,hb,hc⟩:=(HB.out.keep HK.out).open' (by omega) (by omega)
  have J:m<us.length:=by rw[a3.out];exact D
  have d1:=hc m _ (zI J);obtain ⟨A,c,he,hr⟩:=HU.out m J D;rw[he] at d1;have M:=a8.out (m+1) (by omega);rw[ik B m D] at M;obtain ⟨v',w',U,ho',a0⟩:=my (P:=zy) wr w.heap.size 22 22 109 ie _ 2 24 Tryz.underlying22 bd a6 a5 a4 rfl (by decide) HO.out (hr.keep HK.out) c (a9.out _ (zH D)) (by unfold maxLen;omega) (by omega) HK.out.size;have a7:=zx U;have HO':Hid (w'.ownsRow w.heap.size 109 2 v' (gV B (m+1)) (oP B (m+1))):=zx (by rw[ik B m D,rS B m D];exact ho');have HK':=zx (HK.out.grown a0 (fun g hg=> .inr (HO.out.lt g hg).1));clear hc he hr U ho' a0 M;generalize B[m].1=n at *;go_wp2_with (at_builtin;refine Lib.wpList_append_run _ rfl _ _ _ _ rfl _ _ rfl rfl _ _ a7.out ?_)
  go_roundw
  case rel=>exact ⟨m+1,v',rfl,by omega,by go_num,HO'.out,HK'.out⟩
  case measure=>simp[intOf];omega
 obtain rfl:m=B.length:=by omega
 go_wp2;go_ret;exact ⟨⟨_,rfl,HO.out⟩,HK.out⟩
end
section
open Go.RowKit Go.BigFrame
attribute [local go_sem] ag ab ae af
theorem nf (A:Option Addr) (m d n:Nat) (h:n≤d) (W:World):(Instr.slice 22 (zR A m d) none (some (zW zX (n:Int))) none).run zy W= .ok (zR A n d) W:=by
 have I:=Tryz.underlying22;have D:(0:Int)≤(n:Int):=by omega
 have B:(n:Int)≤(d:Int):=by omega
 cases A with
 | none=>go_simp
 | some a=>go_simp
theorem oT (b o n d B:Nat) (U:B≤n) (M:n≤d):∃ A,(∀ W,(Instr.slice 22 (zR (some ⟨b,o,none⟩) n d) (some (zW zX (B:Int))) none none).run zy W= .ok (zR A (n-B) (d-B)) W)∧(B<d→A=some ⟨b,o+B*2,none⟩):=by
 have O:=Tryz.underlying22;have J:(0:Int)≤(B:Int):=by omega
 have I:(B:Int)≤(n:Int):=by omega
 have D:(n:Int)≤(d:Int):=by omega
 by_cases h:B=d
 ·subst h
  refine ⟨some ⟨b,o,none⟩,fun W=>?_,fun h=>absurd h (by omega)⟩;go_simp
 refine ⟨some ⟨b,o+B*2,none⟩,fun W=>?_,fun _=>rfl⟩;go_simp
 exact fun e=>absurd e.symm h
theorem u9 {w:World} {B:Nat} {e:TypeId} {size n:Nat} {v:Value} {xs:List Value} (h:w.ownsRow B e size v n xs):∃ A c,v=zR A n c∧n≤c∧Rd w [] size A n xs:=by
 rcases h.2 with ⟨rfl,rfl⟩|⟨g,M,O,rfl,hb,hh,hc,r⟩
 ·refine ⟨none,0,rfl,zz _,?_⟩
  have:xs=[]:=List.eq_nil_of_length_eq_zero (by rw[h.1];simp);rw[this];exact Rd.nil
 obtain ⟨A,c,e1,I⟩:=ao h;injection e1 with e1 e2 e3;subst e1 e3;refine ⟨_,_,rfl,hc,h.1,fun hn=>?_⟩;obtain ⟨g',D,J,Z⟩:=I hn;injection D with D;injection D with D;subst D;exact ⟨_,rfl,by simp,J,fun j u U=>by rw[dU,Nat.zero_add];exact Z j u U⟩
theorem tE {w:World} {b o:Nat} {l:List Cl} {n:Nat} {A:Option Addr} (h:Rd w [] 2 (some ⟨b,o,none⟩) l.length (ah l)) (U:n≤l.length) (M:n<l.length→A=some ⟨b,o+n*2,none⟩):Rd w [] 2 A (l.length-n) (ah (l.drop n)):=by
 have B:∀ q:List Cl,(ah q).length=q.length*2:=fun q=>by
  induction q with
  | nil=>rfl
  | cons c q ih =>
   have e:ah (c::q)=[zQ (bs c.name),zW zX c.kind]++ah q:=by simp[ah,fG]
   rw[e,zF,ih];simp;omega
 refine ⟨by rw[B,List.length_drop],fun h0=>?_⟩;obtain ⟨ad,e,J,D,Z⟩:=h.2 (by omega);injection e with e;subst e;refine ⟨_,M (by omega),J,D,fun j u O=>?_⟩;have e2:ah l=ah (l.take n)++ah (l.drop n):=by
  unfold ah;rw[←List.flatMap_append,List.take_append_drop]
 have I:(ah (l.take n)).length=n*2:=by rw[B,List.length_take,Nat.min_eq_left U]
 have:=Z (n*2+j) u (by
  rw[e2,List.getElem?_append_right (by rw[I];omega),I,Nat.add_sub_cancel_left];exact O)
 rw[dU] at this ⊢;rw[show o+n*2+j=o+(n*2+j) by omega];exact this
end
section
open Go.RowKit Go.BigFrame
attribute [local go_sem] ag ab ae af
attribute [local go_sem] KW.cell
def fJ (a b:List Cl) (m:Nat):List Cl:=a++b.take m++b.drop (m+1)
theorem oU {a b:List Cl} {m:Nat} (h:m<b.length):(fJ a b m).length=a.length+m+(b.length-(m+1)):=by
 unfold fJ;rw[zF,zF,List.length_take,List.length_drop,Nat.min_eq_left (Nat.le_of_lt h)]
theorem ll {out:List Cl}:fk out=false↔∀ i,(h:i<out.length)→aw (out.take i) out[i].name=none:=by
 unfold fk;rw[←Bool.not_eq_true,List.any_eq_true];constructor
 ·intro h i B
  refine Decidable.byContradiction fun D=>h ⟨i,List.mem_range.2 B,?_⟩
  rw[zM,zI B]
  cases A:aw (out.take i) out[i].name with
  | none=>exact absurd A D
  | some k=>exact congrArg Option.isSome A
 rintro h ⟨i,B,A⟩;have hi':=List.mem_range.1 B;rw[zM,zI hi'] at A;have:=h i hi';rw[show ((some out[i]).getD zC)=out[i] from rfl,this] at A;cases A
theorem rW {out:List Cl} {i:Nat} (h:i<out.length) {k:Nat} (A:aw (out.take i) out[i].name=some k):fk out=true:=by
 cases hd:fk out with
 | true=>rfl
 | false=>rw[ll.1 hd i h] at A;cases A
theorem ji:∀ (l:List Cl),∀ x∈ah l,x.oneCell'=true
 | [],x,h=>by cases h
 | c::l,x,h=>by
  have e:ah (c::l)=[zQ (bs c.name),zW zX c.kind]++ah l:=by simp[ah,fG]
  rw[e,List.mem_append] at h;rcases h with h|h
  ·simp only[List.mem_cons,List.not_mem_nil,or_false] at h
   rcases h with rfl|rfl<;>rfl
  exact ji l x h
theorem qf (j:Jb) (a D:List Cl) (Ao:Option Addr) (co:Nat) (Ai:Option Addr) (ni ci:Nat) (Ac:Option Addr) (cc:Nat) (A:Option Addr) (c:Nat) (B:Option Addr) (d:Nat) (w:World) (hJ:fd w j Ao co Ac cc) (hA:Rd w [] 2 A a.length (ah a)) (hl:a.length≤4294967) (hB:Rd w [] 2 B D.length (ah D)) (hd:D.length≤d) (fc:D.length≤4294967) :
  Calls zy 86 #[gG j Ao co Ai ni ci Ac cc,zR A a.length c,zR B D.length d] w fun e w'=>aP (cy j a D) e w'∧aa [] w w':=by
 have c6:=zx (fun (nm:Bs) W (q:aa [] w W)=>eC a nm A c W (hA.keep q) (by omega));have c9:=zx (fun (nm:Bs) W (q:aa [] w W)=>eC D nm B d W (hB.keep q) (by omega));have HA:=zx hA;have HB:=zx hB;have HJ:=zx hJ.cols;obtain ⟨R,hR⟩:∃ R,cy j a D=R:=⟨_,rfl⟩
 rw[hR]
 have HR:Hid (R=if j.cols.length≠2 then .error 1 else match aw a (j.cols.getD 0 []),aw D (j.cols.getD 1 []) with
  | some k,some m=>if (a.getD k zC).kind≠(D.getD m zC).kind then .error 13 else if fk (fJ a D m) then .error 9 else if 6<(fJ a D m).length then .error 4 else .ok [fJ a D m]
  | _,_=> .error 7):=zx (by
  rw[←hR];unfold cy fJ;split
  ·rfl
  cases aw a (j.cols.getD 0 [])<;>cases aw D (j.cols.getD 1 [])<;>rfl)
 clear hR hJ hA hB;obtain ⟨at_,code,outs,ins,cols,op,⟨lc,lk,ln,lw⟩,⟨rc,rk,rn,a9⟩,J⟩:=j;simp only at HR HJ;show Calls _ _ #[.agg #[zW zX at_,zW zX code,zR Ao outs.length co,zR Ai ni ci,zR Ac cols.length cc,zQ (bs op),zQ (bs lc),zW zX lk,zW zX ln,zQ (bs lw),zQ (bs rc),zW zX rk,zW zX rn,zQ (bs a9),zW zX J],zR A a.length c,zR B D.length d] w _;by_cases h1:cols.length=2
 ·have t0:((cols.length:Int) != 2)=false:=by rw[h1];rfl
  obtain ⟨n1,n2,d5⟩:∃ n1 n2,cols=[n1,n2]:=by
   match cols,h1 with
   | [n1,n2],_=>exact ⟨n1,n2,rfl⟩
  subst d5;obtain ⟨b,o,rfl,_,hb,a0⟩:=HJ.out.open' (by simp) (by decide);have s0:w.cell? ⟨b,o,none⟩=some (zQ (bs n1)):=a0 0 _ rfl;have s1:w.cell? ⟨b,o+1,none⟩=some (zQ (bs n2)):=a0 1 _ rfl;have b1:=zx s0;have bB:=zx s1;clear a0 h1 HJ s0 s1;show Calls _ _ #[.agg #[zW zX at_,zW zX code,zR Ao outs.length co,zR Ai ni ci,zR (some ⟨b,o,none⟩) 2 cc,zQ (bs op),zQ (bs lc),zW zX lk,zW zX ln,zQ (bs lw),zQ (bs rc),zW zX rk,zW zX rn,zQ (bs a9),zW zX J],zR A a.length c,zR B D.length d] w _
  have U:Hid (R=match aw a n1,aw D n2 with
   | some k,some m=>if (a.getD k zC).kind≠(D.getD m zC).kind then .error 13 else if fk (fJ a D m) then .error 9 else if 6<(fJ a D m).length then .error 4 else .ok [fJ a D m]
   | _,_=> .error 7):=zx (HR.out.trans (by
    rw[if_neg (fun h=>h rfl)];show (match aw a n1,aw D n2 with|some k,some m=>_|_,_=>_)=_;cases aw a n1<;>cases aw D n2<;>rfl))
  clear HR;obtain ⟨w2,a8⟩:∃ w2,w.alloc (zU #[zW zX at_,zW zX code,zR Ao outs.length co,zR Ai ni ci,zR (some ⟨b,o,none⟩) 2 cc,zQ (bs op),zQ (bs lc),zW zX lk,zW zX ln,zQ (bs lw),zQ (bs rc),zW zX rk,zW zX rn,zQ (bs a9),zW zX J] 59)=w2:=⟨_,rfl⟩
  have I:Hid (aa [] w w2):=zx (by rw[←a8];exact (zN _ _).alloc _);have a1:Hid (ap w2 w.heap.size 59 #[zW zX at_,zW zX code,zR Ao outs.length co,zR Ai ni ci,zR (some ⟨b,o,none⟩) 2 cc,zQ (bs op),zQ (bs lc),zW zX lk,zW zX ln,zQ (bs lw),zQ (bs rc),zW zX rk,zW zX rn,zQ (bs a9),zW zX J]):=zx (by rw[←a8];exact zO _ _ _);have HW:=zx a8;clear a8;obtain ⟨k1,a7⟩:∃ k1,aw a n1=k1:=⟨_,rfl⟩
  obtain ⟨k2,bj⟩:∃ k2,aw D n2=k2:=⟨_,rfl⟩
  have bd:Hid (∀ W,aa [] w2 W→Calls zy 132 #[zR A a.length c,zQ (bs n1)] W fun e M=>e=zT (zW zX (aI k1))∧aa [] W M):=zx fun W q=>by
   rw[←a7];exact c6.out n1 W (I.out.trans q)
  have a2:Hid (∀ W,aa [] w2 W→Calls zy 132 #[zR B D.length d,zQ (bs n2)] W fun e M=>e=zT (zW zX (aI k2))∧aa [] W M):=zx fun W q=>by
   rw[←bj];exact c9.out n2 W (I.out.trans q)
  have ek:Hid (∀ k,k1=some k→k<a.length):=zx fun k h=>(List.findIdx?_eq_some_iff_getElem.1 (a7.trans h)).1
  have em:Hid (∀ k,k2=some k→k<D.length):=zx fun k h=>(List.findIdx?_eq_some_iff_getElem.1 (bj.trans h)).1
  rw[a7,bj] at U;clear c6 c9 a7 bj
  cases k1 with
  | none =>
   have HE:Hid (R= .error 7):=zx (by rw[U.out]);have HF1':Hid (∀ W,aa [] w2 W→Calls zy 132 #[zR A a.length c,zQ (bs n1)] W fun e M=>e=zT (zW zX (-1))∧aa [] W M):=bd;clear bd U;generalize aI k2=q2 at a2;go_enter Tryz.func86,Tryz.ntmps86
   go_upto_region 3 with (fail)
   rw[HW.out];have y4:w2.cell? ⟨w.heap.size,4,none⟩=some (zR (some ⟨b,o,none⟩) 2 cc):=a1.out.cell 4;have s0:=I.out.cell_of b1.out (by simp);have s1:=I.out.cell_of bB.out (by simp);have dB:w.heap.size<w2.heap.size:=a1.out.lt;have c7:b<w2.heap.size:=zB _ _ s0;generalize w.heap.size=bx at *;refine aB (by kernel_rfl) (by kernel_rfl) ?_;repeat (go_big_quiet_step (first|with_reducible exact zP HF1'.out _|with_reducible exact zP a2.out _))
   refine wpQuiet_nil ?_;intro w3 O;have Z:=zx (I.out.trans O);clear O y4 s0 s1;go_wp2;go_ret2;exact ⟨by rw[HE.out];rfl,Z.out⟩
  | some k =>
   have d2:=ek.out k rfl;have ev:((k:Int)<0)=False:=eq_false (by omega);have HF1':Hid (∀ W,aa [] w2 W→Calls zy 132 #[zR A a.length c,zQ (bs n1)] W fun e M=>e=zT (zW zX (k:Int))∧aa [] W M):=bd;clear bd
   cases k2 with
   | none =>
    have HE:Hid (R= .error 7):=zx (by rw[U.out]);have HF2':Hid (∀ W,aa [] w2 W→Calls zy 132 #[zR B D.length d,zQ (bs n2)] W fun e M=>e=zT (zW zX (-1))∧aa [] W M):=a2;clear a2 U;go_enter Tryz.func86,Tryz.ntmps86
    go_upto_region 3 with (fail)
    rw[HW.out];have y4:w2.cell? ⟨w.heap.size,4,none⟩=some (zR (some ⟨b,o,none⟩) 2 cc):=a1.out.cell 4;have s0:=I.out.cell_of b1.out (by simp);have s1:=I.out.cell_of bB.out (by simp);have dB:w.heap.size<w2.heap.size:=a1.out.lt;have c7:b<w2.heap.size:=zB _ _ s0;generalize w.heap.size=bx at *;refine aB (by kernel_rfl) (by kernel_rfl) ?_;repeat (go_big_quiet_step (first|with_reducible exact zP HF1'.out _|with_reducible exact zP HF2'.out _))
    refine wpQuiet_nil ?_;intro w3 O;have Z:=zx (I.out.trans O);clear O y4 s0 s1;go_wp2;go_ret2;exact ⟨by rw[HE.out];rfl,Z.out⟩
   | some m =>
    have a3:=em.out m rfl;have ez:((m:Int)<0)=False:=eq_false (by omega);have e4:(m:Int)<(D.length:Int):=by omega
    have es:(k:Int)<(a.length:Int):=by omega
    have e5:(0:Int)≤(m:Int):=by omega
    have a7:(0:Int)≤(k:Int):=by omega
    have HF2':Hid (∀ W,aa [] w2 W→Calls zy 132 #[zR B D.length d,zQ (bs n2)] W fun e M=>e=zT (zW zX (m:Int))∧aa [] W M):=a2;clear a2;have gm:D.getD m zC=D[m]:=by rw[zM,zI a3];rfl
    have gk:a.getD k zC=a[k]:=by rw[zM,zI d2];rfl
    obtain ⟨b4,o4,rfl,_,fb,a0⟩:=HA.out.open' (by omega) (by omega);obtain ⟨b5,o5,rfl,_,e9,c5⟩:=HB.out.open' (by omega) (by omega);have c1:=c5 (m*2+1) _ (al D m a3).2;have c3:=a0 (k*2+1) _ (al a k d2).2;rw[←Nat.add_assoc] at c1 c3;have a6:Hid (R=if (a.getD k zC).kind≠(D.getD m zC).kind then .error 13 else if fk (fJ a D m) then .error 9 else if 6<(fJ a D m).length then .error 4 else .ok [fJ a D m]):=U;rw[gm,gk] at a6;obtain ⟨x,hx⟩:∃ x,a[k].kind=x:=⟨_,rfl⟩
    obtain ⟨y,hy⟩:∃ y,D[m].kind=y:=⟨_,rfl⟩
    rw[hx,hy] at a6;rw[hy] at c1;rw[hx] at c3;have C1:=zx c1;have C3:=zx c3;clear a0 c5 c1 c3 gm gk hx hy U;go_enter Tryz.func86,Tryz.ntmps86
    go_upto_region 3 with (fail)
    rw[HW.out];have y4:w2.cell? ⟨w.heap.size,4,none⟩=some (zR (some ⟨b,o,none⟩) 2 cc):=a1.out.cell 4;have s0:=I.out.cell_of b1.out (by simp);have s1:=I.out.cell_of bB.out (by simp);have dB:w.heap.size<w2.heap.size:=a1.out.lt;have c7:b<w2.heap.size:=zB _ _ s0;generalize w.heap.size=bx at *;refine aB (by kernel_rfl) (by kernel_rfl) ?_;repeat (go_big_quiet_step (first|with_reducible exact zP HF1'.out _|with_reducible exact zP HF2'.out _))
    refine wpQuiet_nil ?_;intro w3 O;have Z:=zx (I.out.trans O);clear O y4 s0 s1;have c1:=Z.out.cell_of C1.out (by simp);have c3:=Z.out.cell_of C3.out (by simp);have l5:=zB _ _ c1;have l4:=zB _ _ c3;go_upto_region 6 with (fail)
    refine aB (by kernel_rfl) (by kernel_rfl) ?_;repeat (go_big_quiet_step (fail))
    refine wpQuiet_nil ?_;intro w4 d3;have bn:=zx (Z.out.trans d3);clear d3 c1 c3;by_cases aA:x=y
    ·have tk:(x != y)=false:=by simp[aA]
     have bb:Hid (R=if fk (fJ a D m) then .error 9 else if 6<(fJ a D m).length then .error 4 else .ok [fJ a D m]):=zx (by rw[a6.out,if_neg (fun h=>h aA)]);clear aA a6;go_upto_region 8 with (fail)
     have c2:=nf (some ⟨b5,o5,none⟩) D.length d m (by omega);obtain ⟨A5,bq,ds⟩:=oT b5 o5 D.length d (m+1) (by omega) hd;have a5:((m+1:Nat):Int)=(m:Int)+1:=by omega
     have e0:IntKind.i64.wrap ((m:Int)+1)=(m:Int)+1:=by simp[IntKind.wrap,IntKind.bits,IntKind.signed];omega
     rw[a5] at bq;have ch:=HB.out.keep bn.out;have cu:=kW (k:=m) ch (by omega);have c8:=tE (n:=m+1) ch (by omega) (fun h=>ds (by omega));have H51':Rd w4 [] 2 (some ⟨b5,o5,none⟩) m (ah (D.take m)):=by
      have:=cu;rw[List.length_take,Nat.min_eq_left (Nat.le_of_lt a3)] at this;exact this
     have b3:Hid (∀ W g,aa [] w4 W→Rd W [] 1 (some ⟨g,0,none⟩) 3 [zR (some ⟨b4,o4,none⟩) a.length c,zR (some ⟨b5,o5,none⟩) m d,zR A5 (D.length-(m+1)) (d-(m+1))]→Calls zy 135 #[zR (some ⟨g,0,none⟩) 3 3] W fun e w'=>(∃ v,e=zT v∧w'.ownsRow W.heap.size 109 2 v (fJ a D m).length (ah (fJ a D m)))∧aa [] W w'):=zx fun W g z hr=>by
      have h:=oS [(a.length,ah a),(m,ah (D.take m)),(D.length-(m+1),ah (D.drop (m+1)))] [zR (some ⟨b4,o4,none⟩) a.length c,zR (some ⟨b5,o5,none⟩) m d,zR A5 (D.length-(m+1)) (d-(m+1))] (some ⟨g,0,none⟩) 3 W rfl hr (fun i hi hi'=>by
       match i,hi with
       | 0,_=>exact ⟨_,_,rfl,(HA.out.keep bn.out).keep z⟩
       | 1,_=>exact ⟨_,_,rfl,H51'.keep z⟩
       | 2,_=>exact ⟨_,_,rfl,c8.keep z⟩) (by simp) (by simp[gV];omega) (fun p hp x hx=>by
       simp only[List.mem_cons,List.not_mem_nil,or_false] at hp;rcases hp with rfl|rfl|rfl<;>exact ji _ x hx)
      have e1:gV [(a.length,ah a),(m,ah (D.take m)),(D.length-(m+1),ah (D.drop (m+1)))] 3=(fJ a D m).length:=by
       rw[oU a3];simp[gV];omega
      have e2:oP [(a.length,ah a),(m,ah (D.take m)),(D.length-(m+1),ah (D.drop (m+1)))] 3=ah (fJ a D m):=by
       unfold fJ ah;simp[oP]
      rw[←e1,←e2];exact h
     have ct:=oU (a:=a) a3;obtain ⟨out,bo⟩:∃ out,fJ a D m=out:=⟨_,rfl⟩
     rw[bo] at bb b3 ct;have et:out.length≤8589934:=by omega
     clear ct bo cu H51' c8 ch ds HA HB;refine wp_region_still_tail 8 (by kernel_rfl) (by kernel_rfl) ?_;simp only[List.take_succ_cons,List.take_zero,List.drop_succ_cons,List.drop_zero];repeat still_step
     refine wpStill_nil ?_;go_wp2_with fail
     refine (b3.out _ _ ?_ ?_).mono ?_
     ·first|exact (zN _ _).drew.alloc _|exact ((zN _ _).alloc _).drew
     ·first|exact p9 w4.drew 22 [_,_,_] 3 1 rfl|exact p9 w4 22 [_,_,_] 3 1 rfl
     rintro e w6 ⟨⟨v,rfl,bA⟩,k6⟩;have dv:=zx ((bn.out.trans ((zN _ _).drew.alloc _)).trans k6);obtain ⟨Av,cv,rfl,eb,cp⟩:=u9 bA;have dq:=zx cp;clear bA cp k6 c2 bq a5 b3;go_wp2_with fail
     go_loopw [63] (fun i wr=>∃ t:Nat,t≤out.length∧i=zW zX t∧Hid (∀ q,q<t→(h2:q<out.length)→aw (out.take q) out[q].name=none)∧Hid (aa [] w6 wr)) (fun i _=>out.length-(intOf i).toNat)
     case atStart=>exact ⟨0,zE _,rfl,zx (fun q hq=>absurd hq (by omega)),zx (zN _ _)⟩
     obtain ⟨t,ht,rfl,HN,bm⟩:=hrel;obtain ⟨wt,rfl⟩:∃ z:World,z=wr:=⟨_,rfl⟩
     by_cases b0:t<out.length
     ·have en:(t:Int)<(out.length:Int):=by omega
      have cf:=dq.out.keep bm.out;have d4:=kW (k:=t) cf (by omega);obtain ⟨b6,o6,rfl,_,e3,cg⟩:=cf.open' (by omega) (by omega);have d0:=cg (t*2) _ (al out t b0).1;have d1:=cg (t*2+1) _ (al out t b0).2;rw[←Nat.add_assoc] at d1;have c0:(out.take t).length=t:=by rw[List.length_take,Nat.min_eq_left ht]
      have b7:Hid (∀ W,aa [] wt W→Calls zy 132 #[zR (some ⟨b6,o6,none⟩) t cv,zQ (bs out[t].name)] W fun e M=>e=zT (zW zX (aI (aw (out.take t) out[t].name)))∧aa [] W M):=zx fun W q=>by
       have:=eC (out.take t) out[t].name (some ⟨b6,o6,none⟩) cv W (d4.keep q) (by omega);rw[c0] at this;exact this
      have ad:Hid (∀ k,aw (out.take t) out[t].name=some k→fk out=true):=zx fun k h=>rW b0 h
      have bl:Hid (aw (out.take t) out[t].name=none→∀ q,q<t+1→(h2:q<out.length)→aw (out.take q) out[q].name=none):=zx fun h q hq h2=>by
       by_cases el:q<t
       ·exact HN.out q el h2
       obtain rfl:q=t:=by omega
       exact h
      obtain ⟨cx,cq⟩:∃ cx,aw (out.take t) out[t].name=cx:=⟨_,rfl⟩
      rw[cq] at b7 ad bl;obtain ⟨x,hx⟩:∃ x,out[t]=x:=⟨_,rfl⟩
      rw[hx] at d0 d1 b7;have ep:=nf (some ⟨b6,o6,none⟩) out.length cv t (by omega);clear cg cf d4 hx c0 cq;go_upto_region 12 with (fail)
      have a4:ap (wt.alloc (zU #[zQ (bs x.name),zW zX x.kind] 109)) wt.heap.size 109 #[zQ (bs x.name),zW zX x.kind]:=zO _ _ _;have ba:aa [] wt (wt.alloc (zU #[zQ (bs x.name),zW zX x.kind] 109)):=(zN _ _).alloc _;generalize wt.alloc (zU #[zQ (bs x.name),zW zX x.kind] 109)=y at a4 ba ⊢;generalize wt.heap.size=gx at a4 ⊢;have x0:y.cell? ⟨gx,0,none⟩=some (zQ (bs x.name)):=a4.cell 0;have xl:=a4.lt;have HFD':Hid (∀ W,aa [] y W→Calls zy 132 #[zR (some ⟨b6,o6,none⟩) t cv,zQ (bs x.name)] W fun e M=>e=zT (zW zX (aI cx))∧aa [] W M):=zx fun W q=>b7.out W (ba.trans q)
      have c4:=zx (bm.out.trans ba);clear a4 ba d0 d1
      cases cx with
      | none =>
       have cj:Hid (∀ W,aa [] y W→Calls zy 132 #[zR (some ⟨b6,o6,none⟩) t cv,zQ (bs x.name)] W fun e M=>e=zT (zW zX (-1))∧aa [] W M):=HFD';have d8:=zx (bl.out rfl);clear HFD' ad bl;refine aB (by kernel_rfl) (by kernel_rfl) ?_;repeat (go_big_quiet_step (first|with_reducible exact zP cj.out _))
       refine wpQuiet_nil ?_;intro wz kz;have HX:=zx (c4.out.trans kz);clear x0 xl kz;go_wp2;go_roundw
       case rel=>exact ⟨t+1,by omega,by go_num,d8,HX⟩
       case measure=>simp[intOf];omega
      | some k =>
       have cj:Hid (∀ W,aa [] y W→Calls zy 132 #[zR (some ⟨b6,o6,none⟩) t cv,zQ (bs x.name)] W fun e M=>e=zT (zW zX (k:Int))∧aa [] W M):=HFD';have HE:Hid (R= .error 9):=zx (by rw[bb.out,if_pos (ad.out k rfl)]);have er:(0:Int)≤(k:Int):=by omega
       clear HFD' ad bl;refine aB (by kernel_rfl) (by kernel_rfl) ?_;repeat (go_big_quiet_step (first|with_reducible exact zP cj.out _))
       refine wpQuiet_nil ?_;intro wz kz;have HX:=zx (dv.out.trans (c4.out.trans kz));clear x0 xl kz;go_wp2;go_ret2;exact ⟨by rw[HE.out];rfl,HX.out⟩
     have en:¬(t:Int)<(out.length:Int):=by omega
     have bk:fk out=false:=ll.2 fun q hq=>HN.out q (by omega) hq
     have HX:=zx (dv.out.trans bm.out);have d7:=zx (dq.out.keep bm.out);by_cases h6:6<out.length
     ·have HE:Hid (R= .error 4):=zx (by rw[bb.out,bk,if_neg (by simp),if_pos h6])
      have d6:(6:Int)<(out.length:Int):=by omega
      clear bk;go_wp2;go_ret2;exact ⟨by rw[HE.out];rfl,HX.out⟩
     have HE:Hid (R= .ok [out]):=zx (by rw[bb.out,bk,if_neg (by simp),if_neg h6]);have d6:¬(6:Int)<(out.length:Int):=by omega
     have d9:=zx eb;clear bk;go_wp2;go_ret2;exact ⟨by rw[HE.out];exact ⟨_,_,rfl,zz _,cU d7.out d9.out _⟩,HX.out.alloc _⟩
    have tk:(x != y)=true:=by simp[aA]
    have HE:Hid (R= .error 13):=zx (by rw[a6.out,if_pos aA]);clear aA;go_wp2;go_ret2;exact ⟨by rw[HE.out];rfl,bn.out⟩
 have t0:((cols.length:Int) != 2)=true:=by simp;omega
 have HE:Hid (R= .error 1):=zx (by rw[HR.out,if_pos h1]);clear h1 HR HA HB;go_enter Tryz.func86,Tryz.ntmps86
 go_wp2;go_ret2;exact ⟨by rw[HE.out];rfl,(zN _ _).alloc _⟩
theorem xG (at_ D U ln M Z:Int) (outs js cols:List Bs) (op lc lw O J:Bs) (Ao:Option Addr) (co:Nat) (Ai:Option Addr) (ni ci:Nat) (Ac:Option Addr) (cc:Nat) (ins:List (List Cl)) (AH:Option Addr) (ch:Nat) (w:World) (hH:aW w AH ins) (hi:ins.length=2) (ho:outs.length=1)
  (hf:∀ A d B e W,(ins.getD 0 []).length≤d→Rd w [] 2 A (ins.getD 0 []).length (ah (ins.getD 0 []))→(ins.getD 1 []).length≤e→Rd w [] 2 B (ins.getD 1 []).length (ah (ins.getD 1 []))→aa [] w W→Calls zy 86 #[gG (⟨at_,7,outs,js,cols,op,⟨lc,U,ln,lw⟩,⟨O,M,Z,J⟩,D⟩:Jb) Ao co Ai ni ci Ac cc,zR A (ins.getD 0 []).length d,zR B (ins.getD 1 []).length e] W fun e w'=>aP (cy (⟨at_,7,outs,js,cols,op,⟨lc,U,ln,lw⟩,⟨O,M,Z,J⟩,D⟩:Jb) (ins.getD 0 []) (ins.getD 1 [])) e w'∧aa [] W w') :
  Calls zy 33 #[.agg #[zW zX at_,zW zX 7,zR Ao outs.length co,zR Ai ni ci,zR Ac cols.length cc,zQ (bs op),zQ (bs lc),zW zX U,zW zX ln,zQ (bs lw),zQ (bs O),zW zX M,zW zX Z,zQ (bs J),zW zX D],zR AH ins.length ch] w fun e w'=>aP (cy (⟨at_,7,outs,js,cols,op,⟨lc,U,ln,lw⟩,⟨O,M,Z,J⟩,D⟩:Jb) (ins.getD 0 []) (ins.getD 1 [])) e w'∧aa [] w w':=by
 obtain ⟨b,o,A,d,rfl,hb,a5,hd,hA⟩:=hH.first (by omega) (by omega);obtain ⟨B,dB,a2,a3,hB⟩:=hH.second (by omega) (by omega);have HF:=zx (fun W=>hf A d B dB W hd hA a3 hB);clear hf hA hB hH;generalize cy (⟨at_,7,outs,js,cols,op,⟨lc,U,ln,lw⟩,⟨O,M,Z,J⟩,D⟩:Jb) (ins.getD 0 []) (ins.getD 1 [])=R at *;have HF':Hid (∀ W,aa [] w W→Calls zy 86 #[.agg #[zW zX at_,zW zX 7,zR Ao outs.length co,zR Ai ni ci,zR Ac cols.length cc,zQ (bs op),zQ (bs lc),zW zX U,zW zX ln,zQ (bs lw),zQ (bs O),zW zX M,zW zX Z,zQ (bs J),zW zX D],zR A (ins.getD 0 []).length d,zR B (ins.getD 1 []).length dB] W fun e w'=>aP R e w'∧aa [] W w'):=HF;clear HF;generalize (ins.getD 0 []).length=n at *;generalize (ins.getD 1 []).length=n' at *;have HS:Hid (∀ W,Calls zy 31 #[zW zX 7] W fun e W'=>e=zT (.tuple #[zW zX 2,zW zX 1])∧W=W'):=zx fun W=>by
  have h:=df 7 W;rw[show aF 7=(2,1) by decide] at h;exact h
 rw[hi];rw[ho] at HF' ⊢;clear hi ho;go_enter Tryz.func33,Tryz.ntmps33
 go_wp2_with (go_at_call 31;refine (HS.out _).mono ?_;rintro e w6 ⟨rfl,rfl⟩)
 go_upto_region 18 with (fail)
 have I:ap (w.alloc (zU #[zW zX at_,zW zX 7,zR Ao 1 co,zR Ai ni ci,zR Ac cols.length cc,zQ (bs op),zQ (bs lc),zW zX U,zW zX ln,zQ (bs lw),zQ (bs O),zW zX M,zW zX Z,zQ (bs J),zW zX D] 59)) w.heap.size 59 #[zW zX at_,zW zX 7,zR Ao 1 co,zR Ai ni ci,zR Ac cols.length cc,zQ (bs op),zQ (bs lc),zW zX U,zW zX ln,zQ (bs lw),zQ (bs O),zW zX M,zW zX Z,zQ (bs J),zW zX D]:=zO _ _ _;have aA:aa [] w (w.alloc (zU #[zW zX at_,zW zX 7,zR Ao 1 co,zR Ai ni ci,zR Ac cols.length cc,zQ (bs op),zQ (bs lc),zW zX U,zW zX ln,zQ (bs lw),zQ (bs O),zW zX M,zW zX Z,zQ (bs J),zW zX D] 59)):=(zN _ _).alloc _;generalize w.alloc (zU #[zW zX at_,zW zX 7,zR Ao 1 co,zR Ai ni ci,zR Ac cols.length cc,zQ (bs op),zQ (bs lc),zW zX U,zW zX ln,zQ (bs lw),zQ (bs O),zW zX M,zW zX Z,zQ (bs J),zW zX D] 59)=y at I aA ⊢;have bb:∀ W,aa [] y W→W.cell? ⟨b,o+1,none⟩=some (zR B n' dB):=fun W z=>(aA.trans z).cell_of a2 (by simp)
 have y0:∀ W,aa [] y W→W.cell? ⟨w.heap.size,0,none⟩=some (zW zX at_):=fun W z=>(I.keep z (by simp)).cell 0
 have y1:∀ W,aa [] y W→W.cell? ⟨w.heap.size,1,none⟩=some (zW zX 7):=fun W z=>(I.keep z (by simp)).cell 1
 have y2:∀ W,aa [] y W→W.cell? ⟨w.heap.size,2,none⟩=some (zR Ao 1 co):=fun W z=>(I.keep z (by simp)).cell 2
 have y3:∀ W,aa [] y W→W.cell? ⟨w.heap.size,3,none⟩=some (zR Ai ni ci):=fun W z=>(I.keep z (by simp)).cell 3
 have y4:∀ W,aa [] y W→W.cell? ⟨w.heap.size,4,none⟩=some (zR Ac cols.length cc):=fun W z=>(I.keep z (by simp)).cell 4
 have y5:∀ W,aa [] y W→W.cell? ⟨w.heap.size,5,none⟩=some (zQ (bs op)):=fun W z=>(I.keep z (by simp)).cell 5
 have y6:∀ W,aa [] y W→W.cell? ⟨w.heap.size,6,none⟩=some (zQ (bs lc)):=fun W z=>(I.keep z (by simp)).cell 6
 have y7:∀ W,aa [] y W→W.cell? ⟨w.heap.size,7,none⟩=some (zW zX U):=fun W z=>(I.keep z (by simp)).cell 7
 have y8:∀ W,aa [] y W→W.cell? ⟨w.heap.size,8,none⟩=some (zW zX ln):=fun W z=>(I.keep z (by simp)).cell 8
 have y9:∀ W,aa [] y W→W.cell? ⟨w.heap.size,9,none⟩=some (zQ (bs lw)):=fun W z=>(I.keep z (by simp)).cell 9
 have a7:∀ W,aa [] y W→W.cell? ⟨w.heap.size,10,none⟩=some (zQ (bs O)):=fun W z=>(I.keep z (by simp)).cell 10
 have a9:∀ W,aa [] y W→W.cell? ⟨w.heap.size,11,none⟩=some (zW zX M):=fun W z=>(I.keep z (by simp)).cell 11
 have a8:∀ W,aa [] y W→W.cell? ⟨w.heap.size,12,none⟩=some (zW zX Z):=fun W z=>(I.keep z (by simp)).cell 12
 have bd:∀ W,aa [] y W→W.cell? ⟨w.heap.size,13,none⟩=some (zQ (bs J)):=fun W z=>(I.keep z (by simp)).cell 13
 have ba:∀ W,aa [] y W→W.cell? ⟨w.heap.size,14,none⟩=some (zW zX D):=fun W z=>(I.keep z (by simp)).cell 14
 generalize w.heap.size=bx at *;clear I a2 a5;have a1:=zx aA;clear aA;go_region_held3 (fun W=>aa [] y W) (first|exact (zN [] y).drew|exact (zN [] y).drew.trans a0) (first|((with_reducible refine (HF'.out _ a1.out.drew).mono ?_);rintro e w3 ⟨ad,a0⟩;obtain ⟨u,v,rfl,ad⟩:=ad.split))
 have a4:=zx ad;have a6:=zx (a1.out.drew.trans a0);clear a0 ad;go_wp2;go_ret2;exact ⟨a4.out,a6.out⟩
theorem rX (j:Jb) (U:Option Addr) (M:Nat) (Ai:Option Addr) (ni ci:Nat) (O:Option Addr) (cc:Nat) (ins:List (List Cl)) (AH:Option Addr) (ch:Nat) (w:World) (hE:nY w) (hJ:fd w j U M O cc) (hH:aW w AH ins) (Z:∀ l∈ins,l.length≤4294967) :
  Calls zy 33 #[gG j U M Ai ni ci O cc,zR AH ins.length ch] w fun e w'=>aP (cA j ins) e w'∧aa [] w w':=by
 have J:∀ k,(ins.getD k []).length≤4294967:=fun k=>by
  by_cases hk:k<ins.length
  ·rw[zM,zI hk]
   exact Z _ (zH hk)
  rw[zM,List.getElem?_eq_none (by omega)];simp
 by_cases h7:j.code=7
 ·unfold cA
  by_cases D:(aF j.code).1=0∨ins.length≠(aF j.code).1∨j.outs.length≠(aF j.code).2
  ·rw[if_pos D]
   obtain ⟨at_,code,outs,js,cols,op,⟨lc,lk,ln,lw⟩,⟨rc,rk,rn,ad⟩,I⟩:=j;exact oQ _ _ _ _ _ _ _ _ js _ _ _ _ _ _ _ _ _ _ _ _ _ _ _ _ _ D
  rw[if_neg D];have hi:ins.length=(aF j.code).1:=Decidable.byContradiction fun h=>D (.inr (.inl h))
  have ho:j.outs.length=(aF j.code).2:=Decidable.byContradiction fun h=>D (.inr (.inr h))
  have aA:=fun A d B e W (_:(ins.getD 0 []).length≤d) (h2:Rd w [] 2 A (ins.getD 0 []).length (ah (ins.getD 0 []))) (h3:(ins.getD 1 []).length≤e) (h4:Rd w [] 2 B (ins.getD 1 []).length (ah (ins.getD 1 []))) (q:aa [] w W)=>qf j (ins.getD 0 []) (ins.getD 1 []) U M Ai ni ci O cc A d B e W (hJ.quiet q) (h2.keep q) (J 0) (h4.keep q) h3 (J 1)
  clear D hE hJ;obtain ⟨at_,code,outs,js,cols,op,⟨lc,lk,ln,lw⟩,⟨rc,rk,rn,ad⟩,I⟩:=j;simp only at h7 hi ho ⊢;subst h7;exact xG at_ I lk ln rk rn outs js cols op lc lw rc ad U M Ai ni ci O cc ins AH ch w hH hi ho aA
 exact tD j U M Ai ni ci O cc ins AH ch w hE hJ hH (fun l hl=>zA (Z l hl) (by decide)) h7 (fun _ A d W h1 h2 q=>oO j (ins.getD 0 []) U M Ai ni ci O cc A d W (hJ.quiet q) (h2.keep q) (zA (J 0) (by decide)))
end
section
def jp (l:List Bool):Option Nat:=l.findIdx? fun b=>b
def dx (cols:List Bs) (a:List Cl) (i:Nat):Option Nat:=if i<cols.length then aw a (cols.getD i []) else none
def iT (A:List Bool) (h:List Int) (v:List (List Cl)):Except Int (List (List Cl)):=match jp A with
 | some i=> .error (h.getD i 0)
 | none=> .ok v
def g9 (op h:Bs) (r:Ar) (a:List Cl):List Bool:=[!decide (op∈compares)||decide (h=[]),decide (aw a h=none),match aw a h with
 | none=>false
 | some k=>bL r a != (a.getD k zC).kind]
def hI:List Bs:=[[43],[45],[42]]
def lB (op:Bs) (cols:List Bs) (l r:Ar) (a:List Cl):List Bool:=[decide (cols.length≠1) || !decide (op∈hI),decide (dx cols a 0=none),match dx cols a 0 with
 | none=>false
 | some k=>(a.getD k zC).kind != 1||bL l a != 1||bL r a != 1]
def ia:List Bs:=[[115,117,109],[109,97,120]]
def lC (op:Bs) (cols:List Bs) (a:List Cl):List Bool:=[decide (cols.length≠2) || !decide (op∈ia),decide (dx cols a 0=none)||decide (dx cols a 1=none),(match dx cols a 1 with
 | none=>false
 | some m=>(a.getD m zC).kind != 1),decide (aI (dx cols a 0)=aI (dx cols a 1))]
def fK (cols:List Bs) (a:List Cl):List (List Cl):=[[a.getD ((dx cols a 0).getD 0) zC,a.getD ((dx cols a 1).getD 0) zC]]
theorem sd (j:Jb) (a:List Cl):bM j a=iT (g9 j.op j.left.col j.right a) [1,7,13] (List.replicate (if j.code=9 then 2 else 1) a):=by
 unfold bM iT g9;by_cases A:j.op∈compares
 ·by_cases B:j.left.col=[]
  ·rw[if_pos (.inr B),decide_eq_true A,decide_eq_true B]
   rfl
  rw[if_neg (by rintro (h|h);exact h A;exact B h),decide_eq_true A,decide_eq_false B]
  cases J:aw a j.left.col with
  | none=>rfl
  | some k =>
   by_cases D:bL j.right a=(a.getD k zC).kind
   ·have I:(bL j.right a != (a.getD k zC).kind)=false:=by rw[D];simp
    simp only[I];rw[if_neg (fun h=>h D)];rfl
   have:(bL j.right a != (a.getD k zC).kind)=true:=by rw[bne_iff_ne];exact D
   simp only[this];rw[if_pos D];rfl
 rw[if_pos (.inl A),decide_eq_false A];rfl
theorem se (j:Jb) (a:List Cl):iU j a=iT (lB j.op j.cols j.left j.right a) [1,7,13] [a]:=by
 unfold iU iT lB;have B:(j.op=[43]∨j.op=[45]∨j.op=[42])↔j.op∈hI:=by simp[hI]
 by_cases A:j.cols.length=1
 ·by_cases D:j.op∈hI
  ·rw[if_neg (by rintro (h|h);exact h A;exact h (B.2 D)),decide_eq_true D,decide_eq_false (by simpa using A)]
   have J:dx j.cols a 0=aw a (j.cols.headD []):=by
    unfold dx;rw[if_pos (by omega)]
    cases M:j.cols with
    | nil=>rw[M] at A;simp at A
    | cons x t=>rfl
   rw[J]
   cases M:aw a (j.cols.headD []) with
   | none=>rfl
   | some k =>
    by_cases I:(a.getD k zC).kind≠1∨bL j.left a≠1∨bL j.right a≠1
    ·have:((a.getD k zC).kind != 1||bL j.left a != 1||bL j.right a != 1)=true:=by simpa[or_assoc] using I
     simp only[this];rw[if_pos I];rfl
    have:((a.getD k zC).kind != 1||bL j.left a != 1||bL j.right a != 1)=false:=by
     rw[Bool.eq_false_iff];intro h;exact I (by simpa[or_assoc] using h)
    simp only[this];rw[if_neg I];rfl
  rw[if_pos (.inr (fun h=>D (B.1 h))),decide_eq_false D];simp only[decide_eq_false (show ¬j.cols.length≠1 from fun h=>h A)];rfl
 rw[if_pos (.inl A),decide_eq_true A];rfl
theorem tI {x y:Option Nat} (h:aI x=aI y):x=y:=by
 cases x<;>cases y<;>simp[aI] at h ⊢<;>omega
theorem sf (j:Jb) (a:List Cl):cC j a=iT (lC j.op j.cols a) [1,7,13,9] (fK j.cols a):=by
 unfold cC iT lC fK;have A:(j.op=[115,117,109]∨j.op=[109,97,120])↔j.op∈ia:=by simp[ia]
 by_cases B:j.cols.length=2
 ·by_cases I:j.op∈ia
  ·rw[if_neg (by rintro (h|h);exact h B;exact h (A.2 I)),decide_eq_true I,decide_eq_false (by simpa using B)]
   have M:dx j.cols a 0=aw a (j.cols.getD 0 []):=by unfold dx;rw[if_pos (by omega)]
   have O:dx j.cols a 1=aw a (j.cols.getD 1 []):=by unfold dx;rw[if_pos (by omega)]
   rw[M,O]
   cases hx:aw a (j.cols.getD 0 []) with
   | none=>rfl
   | some k =>
    cases Z:aw a (j.cols.getD 1 []) with
    | none=>rfl
    | some m =>
     simp only;by_cases J:(a.getD m zC).kind=1
     ·rw[if_neg (by simpa using J),J]
      by_cases D:k=m
      ·have U:decide (aI (some m)=aI (some m))=true:=decide_eq_true rfl
       rw[if_pos D,D,U];rfl
      rw[if_neg D];have:decide (aI (some k)=aI (some m))=false:=by
       rw[decide_eq_false_iff_not];intro h;have:=tI h;injection this with this;exact D this
      rw[this];rfl
     have:((a.getD m zC).kind != 1)=true:=by rw[bne_iff_ne];exact J
     rw[if_pos J,this];rfl
  rw[if_pos (.inr (fun h=>I (A.1 h))),decide_eq_false I];simp only[decide_eq_false (show ¬j.cols.length≠2 from fun h=>h B)];rfl
 rw[if_pos (.inl B),decide_eq_true B];rfl
theorem ve {l:List Bool} {n:Nat} (h:n<l.length) (A:∀ j (B:j<l.length),j<n→l[j]=false) (D:l[n]=true):jp l=some n:=by
 unfold jp;rw[List.findIdx?_eq_some_iff_getElem];exact ⟨h,D,fun j B=>by rw[A j (by omega) B];simp⟩
theorem tJ {l:List Bool} (h:∀ j (A:j<l.length),l[j]=false):jp l=none:=by
 unfold jp;rw[List.findIdx?_eq_none_iff];intro x B;obtain ⟨j,A,rfl⟩:=List.mem_iff_getElem.1 B;exact h j A
theorem n6 {l:List Bool} {i:Nat} (h:jp l=some i):i<l.length:=(List.findIdx?_eq_some_iff_getElem.1 h).1
theorem fA {cols:List Bs} {a:List Cl} {i k:Nat} (h:dx cols a i=some k):k<a.length:=by
 unfold dx at h;split at h
 ·exact (List.findIdx?_eq_some_iff_getElem.1 h).1
 cases h
theorem vf {l:List Bool} (h:jp l=none):∀ b∈l,b=false:=by
 unfold jp at h;rw[List.findIdx?_eq_none_iff] at h;exact h
end
section
open Go.RowKit
attribute [local go_sem] ag ab ae af
end
section
open Go.RowKit Go.BigFrame
attribute [local go_sem] ag ab ae af KW.cell
theorem mG (l:List Cl) (A B:Option Addr) (c d:Nat) (w:World) (O:Rd w [] 2 A l.length (ah l)) (J:Rd w [] 2 B l.length (ah l)) (hl:l.length≤4294967296) :
  Calls zy 34 #[zR A l.length c,zR B l.length d] w fun e w'=>e=zT (.bool true)∧aa [] w w':=by
 have H1:=zx O;have H2:=zx J;clear O J;go_enter Tryz.func34,Tryz.ntmps34
 go_wp2;go_loopw [5] (fun i wr=>∃ m:Nat,m≤l.length∧i=zW zX m∧Hid (aa [] w wr)) (fun i _=>l.length-(intOf i).toNat)
 case atStart=>exact ⟨0,zE _,rfl,zx (zN _ _)⟩
 obtain ⟨m,hm,rfl,D⟩:=hrel;obtain ⟨z,rfl⟩:∃ z:World,z=wr:=⟨_,rfl⟩
 by_cases h:m<l.length
 ·have hi:(m:Int)<(l.length:Int):=by omega
  obtain ⟨g1,o1,rfl,_,l1,I⟩:=(H1.out.keep D.out).open' (by omega) (by omega);obtain ⟨g2,o2,rfl,_,l2,q2⟩:=(H2.out.keep D.out).open' (by omega) (by omega);have Z:=I _ _ (al l m h).1;have e1:=I _ _ (al l m h).2;have d0:=q2 _ _ (al l m h).1;have M:=q2 _ _ (al l m h).2;rw[←Nat.add_assoc] at e1 M;obtain ⟨x,U⟩:∃ x,l[m]=x:=⟨_,rfl⟩
  rw[U] at Z e1 d0 M;have ad:∀ W,(binOp .neq 109 (.agg #[zQ (bs x.name),zW zX x.kind]) (.agg #[zQ (bs x.name),zW zX x.kind])).run zy W= .ok (.bool false) W:=fun W=>by have:=xx x x W;simpa using this
  clear I q2 U;go_upto_region 6 with (fail)
  refine aB (by kernel_rfl) (by kernel_rfl) ?_;repeat (go_big_quiet_step (fail))
  refine wpQuiet_nil ?_;intro wx kx;have HX:=zx (D.out.trans kx);go_wp2;go_roundw
  case rel=>exact ⟨m+1,by omega,by go_num,HX⟩
  case measure=>simp[intOf];omega
 have hi:¬(m:Int)<(l.length:Int):=by omega
 go_wp2;go_ret;exact ⟨rfl,D.out⟩
end
section
open Go.RowKit Go.Sort
attribute [local go_sem] ag ab ae af
structure yj (w:World):Prop where
 p10:Lib.TabIs zy w "internal/strconv.uint64pow10" .u64 Lib.pow10Tab
 kinds:∀ j,j<3→w.cell? ⟨1,j,none⟩=some (zQ (bs (qR j)))
 mlen:∃ m,w.cell? ⟨5,0,none⟩=some (zW zX m)
 esyn:∃ t p,w.cell? ⟨6,0,none⟩=some (.iface t p)
 erng:∃ t p,w.cell? ⟨7,0,none⟩=some (.iface t p)
theorem yj.quiet {w w':World} (h:yj w) (B:aa [] w w'):yj w' :=
  ⟨jS h.p10 B,fun j D=>B.cell_of (h.kinds j D) (by simp),by obtain ⟨m,A⟩:=h.mlen;exact ⟨m,B.cell_of A (by simp)⟩,
   by obtain ⟨t,p,A⟩:=h.esyn;exact ⟨t,p,B.cell_of A (by simp)⟩,by obtain ⟨t,p,A⟩:=h.erng;exact ⟨t,p,B.cell_of A (by simp)⟩⟩
end
section
open Go.RowKit Go.BigFrame
attribute [local go_sem] ag ab ae af KW.cell
theorem eO (l:List Cl) (nm:Bs) (A:Option Addr) (c:Nat) (w:World) (hA:Rd w [] 2 A l.length (ah l)) (hl:l.length≤4294967296) :
  Calls zy 75 #[zR A l.length c,zQ (bs nm)] w fun e w'=>e=zT (zW zX (aI (aw l nm)))∧aa [] w w':=by
 rw[←jW];have HA:=zx hA;clear hA;go_enter Tryz.func75,Tryz.ntmps75
 go_wp2;go_loopw [9] (fun i wr=>∃ n:Nat,n≤l.length∧i=zW zX n∧Hid (∀ j (h:j<l.length),j<n→(l[j].name==nm)=false)∧Hid (aa [] w wr)) (fun i _=>l.length-(intOf i).toNat)
 case atStart=>exact ⟨0,zE _,rfl,zx (fun j _ h=>absurd h (by omega)),zx (zN _ _)⟩
 obtain ⟨n,hn,rfl,B,Z⟩:=hrel;obtain ⟨z,rfl⟩:∃ z:World,z=wr:=⟨_,rfl⟩
 by_cases I:n<l.length
 ·have ad:(n:Int)<(l.length:Int):=by omega
  obtain ⟨g,o,rfl,_,hg,J⟩:=(HA.out.keep Z.out).open' (by omega) (by omega);have d1:=J (n*2) _ (al l n I).1;have d2:=J (n*2+1) _ (al l n I).2;rw[←Nat.add_assoc] at d2;have U:Hid (∀ b,(l[n].name==nm)=b→if b then du (fun c=>c.name==nm) l=(n:Int) else ∀ j (h:j<l.length),j<n+1→(l[j].name==nm)=false):=zx (fun b D=>by
   cases b with
   | true=>exact jT I (fun j hj=>B.out j (by omega) hj) D
   | false =>
    intro j h hj;by_cases e:j<n
    ·exact B.out j h e
    obtain rfl:j=n:=by omega
    exact D)
  have HK:Hid (∀ v,aa [] w (z.alloc v)):=zx (fun v=>Z.out.alloc v);generalize l[n]=x at *;obtain ⟨xn,xk⟩:=x;simp only at d1 d2 U;clear J B Z;by_cases D:xn=nm
  ·have M:=zx (U.out true (by rw[D];simp))
   simp only[if_pos] at M;subst D;clear U;go_wp2;go_ret;exact ⟨by rw[M.out];rfl,HK.out _⟩
  have M:=zx (U.out false (by rw[beq_eq_false_iff_ne];exact D));simp only[Bool.false_eq_true,if_false] at M;have tb:(xn==nm)=false:=by rw[beq_eq_false_iff_ne];exact D
  clear U D;go_wp2;go_roundw
  case rel=>exact ⟨n+1,by omega,by go_num,M,zx (HK.out _)⟩
  case measure=>simp[intOf];omega
 have O:Hid (du (fun c=>c.name==nm) l= -1):=zx (i8 fun j hj=>B.out j hj (by omega));go_wp2;go_ret;exact ⟨by rw[O.out];rfl,Z.out⟩
theorem sH (l m:List Cl) (A B:Option Addr) (c d:Nat) (w:World) (hA:Rd w [] 2 A l.length (ah l)) (hB:Rd w [] 2 B m.length (ah m)) (hl:l.length≤4294967296) (hm:m.length≤4294967296) :
  Calls zy 80 #[zR A l.length c,zR B m.length d] w fun e w'=>e=zT (.bool (decide (l=m)))∧aa [] w w':=by
 have HA:=zx hA;have HB:=zx hB;clear hA hB;by_cases D:l.length=m.length
 ·have t1:((l.length:Int) != (m.length:Int))=false:=by rw[D];simp
  have t2:(l.length != m.length)=false:=by rw[D];simp
  have HL:=zx D;clear D;go_enter Tryz.func80,Tryz.ntmps80
  go_wp2;go_loopw [13] (fun i wr=>∃ n:Nat,n≤l.length∧i=zW zX n∧Hid (l.take n=m.take n)∧aa [] w wr) (fun i _=>l.length-(intOf i).toNat)
  case atStart=>exact ⟨0,zE _,rfl,by rw[List.take_zero,List.take_zero];exact rfl,zN _ _⟩
  obtain ⟨n,hn,rfl,aA,hk⟩:=hrel;by_cases U:n<l.length
  ·have O:n<m.length:=by rw[←HL.out];exact U
   obtain ⟨b,o,rfl,_,hb,hc⟩:=(HA.out.keep hk).open' (by omega) (by omega);obtain ⟨b2,o2,rfl,_,a3,ad⟩:=(HB.out.keep hk).open' (by omega) (by omega);have d1:=hc (n*2) _ (al l n U).1;have d2:=hc (n*2+1) _ (al l n U).2;have e1:=ad (n*2) _ (al m n O).1;have e2:=ad (n*2+1) _ (al m n O).2;rw[←Nat.add_assoc] at d2 e2;have a4:(0:Int)≤(n:Int):=by omega
   have a1:(n:Int)<(l.length:Int):=by omega
   have a2:(n:Int)<(m.length:Int):=by omega
   have Z:l.take (n+1)=l.take n++[l[n]]:=List.take_succ_eq_append_getElem U;have M:m.take (n+1)=m.take n++[m[n]]:=List.take_succ_eq_append_getElem O;have J:l[n]≠m[n]→decide (l=m)=false:=fun h=>by
    rw[decide_eq_false_iff_not];rintro rfl;exact h rfl
   have hq:=xx l[n] m[n];generalize l[n]=x at *;generalize m[n]=y at *;clear hc ad;by_cases I:x=y
   ·have hno':Hid (l.take (n+1)=m.take (n+1)):=zx (by rw[Z,M,aA.out,I])
    rw[decide_eq_true I] at hq;clear Z M J I;go_wp2_with fail
    go_quiet (fail)
    go_wp2;go_roundw
    case rel=>exact ⟨n+1,by omega,by go_num,hno',hk.drewN _⟩
    case measure=>simp[intOf];omega
   have HD:=zx (J I);rw[decide_eq_false I] at hq;clear Z M J I;go_wp2_with fail
   go_quiet (fail)
   go_wp2;go_ret;exact ⟨by rw[HD.out];rfl,hk.drewN _⟩
  have a0:Hid (decide (l=m)=true):=zx (by
   have h:=aA.out;rw[List.take_of_length_le (by omega),List.take_of_length_le (by rw[←HL.out];omega)] at h;exact decide_eq_true h)
  go_wp2;go_ret;exact ⟨by rw[a0.out];rfl,hk⟩
 have t1:((l.length:Int) != (m.length:Int))=true:=by rw[bne_iff_ne];omega
 have t2:(l.length != m.length)=true:=by rw[bne_iff_ne];exact D
 have HD:Hid (decide (l=m)=false):=zx (by rw[decide_eq_false_iff_not];rintro rfl;exact D rfl);clear D;go_enter Tryz.func80,Tryz.ntmps80
 go_wp2;go_ret;exact ⟨by rw[HD.out];rfl,zN _ _⟩
theorem lP (code:Int) (w:World):Calls zy 30 #[zW zX code] w fun e w'=>e=zT (.tuple #[zW zX ((aF code).1:Int),zW zX ((aF code).2:Int)])∧w=w':=by
 obtain ⟨R,O⟩:∃ R,aF code=R:=⟨_,rfl⟩
 rw[O];have h:=zx O;clear O;by_cases M:code=5
 ·subst M
  have B:Hid (R=(2,1)):=zx (h.out.symm.trans (by decide));clear h;go_enter Tryz.func30,Tryz.ntmps30
  go_wp2;go_ret2;exact ⟨by rw[B.out];rfl,rfl⟩
 have t5:(code==5)=false:=by rw[beq_eq_false_iff_ne];exact M
 by_cases I:code=7
 ·subst I
  have B:Hid (R=(2,1)):=zx (h.out.symm.trans (by decide));clear h;go_enter Tryz.func30,Tryz.ntmps30
  go_wp2;go_ret2;exact ⟨by rw[B.out];rfl,rfl⟩
 have Z:(code==7)=false:=by rw[beq_eq_false_iff_ne];exact I
 by_cases D:code=9
 ·subst D
  have B:Hid (R=(1,2)):=zx (h.out.symm.trans (by decide));clear h;go_enter Tryz.func30,Tryz.ntmps30
  go_wp2;go_ret2;exact ⟨by rw[B.out];rfl,rfl⟩
 have U:(code==9)=false:=by rw[beq_eq_false_iff_ne];exact D
 have A:=jL code 1 9 w;by_cases J:1≤code∧code≤9
 ·rw[decide_eq_true J] at A
  have B:Hid (R=(1,1)):=zx (h.out.symm.trans (by unfold aF;rw[if_neg (by omega),if_neg (by omega),if_pos (by omega)]));clear h M I D J;go_enter Tryz.func30,Tryz.ntmps30
  go_wp2_with ((with_reducible refine A.mono ?_);rintro e w2 ⟨rfl,rfl⟩)
  go_ret2;exact ⟨by rw[B.out];rfl,rfl⟩
 rw[decide_eq_false J] at A;have B:Hid (R=(0,0)):=zx (h.out.symm.trans (by unfold aF;rw[if_neg (by omega),if_neg (by omega),if_neg (by omega)]));clear h M I D J;go_enter Tryz.func30,Tryz.ntmps30
 go_wp2_with ((with_reducible refine A.mono ?_);rintro e w2 ⟨rfl,rfl⟩)
 go_ret2;exact ⟨by rw[B.out];rfl,rfl⟩
end
section
open Go.RowKit Go.BigFrame
attribute [local go_sem] ag ab ae af
def iy (l:List Cl) (n:Bs):Nat:=(l.filter fun d=>d.name==n).length
theorem sT (l:List Cl) (c:Cl) (n:Bs):iy (l++[c]) n=if n=c.name then iy l n+1 else iy l n:=by
 unfold iy;rw[List.filter_append,zF];by_cases h:n=c.name
 ·subst h;rw[if_pos rfl];simp
 have:(c.name==n)=false:=by rw[beq_eq_false_iff_ne];exact fun e=>h e.symm
 rw[if_neg h];simp[this]
theorem uH (l:List Cl) (n:Bs):(l.any fun d=>d.name==n)=decide (0<iy l n):=by
 unfold iy;rw[Bool.eq_iff_iff,decide_eq_true_iff,List.any_eq_true,List.length_pos_iff_exists_mem];constructor
 ·rintro ⟨x,B,A⟩;exact ⟨x,List.mem_filter.2 ⟨B,A⟩⟩
 rintro ⟨x,h⟩;exact ⟨x,List.mem_filter.1 h⟩
theorem wo (l:List Cl) (n:Bs):iy l n≤l.length:=List.length_filter_le ..
theorem ma (l:List Cl) (A:Option Addr) (c:Nat) (w:World) (hR:Rd w [] 2 A l.length (ah l)) (hn:∀ x∈l,x.name.length≤1000000) (hl:l.length≤1000000) :
  Calls zy 11 #[zR A l.length c] w fun e w'=>e=zT (.bool (cN l))∧aa [] w w':=by
 have HR:=zx hR;have HN:=zx hn;clear hR hn;have b3:= @run_makeMap zy;have HM:=zx (cX.made w);have HK:=zx ((zN [] w).alloc (.map #[] 0));go_enter Tryz.func11,Tryz.ntmps11
 go_upto_region 2 with (fail)
 obtain ⟨w1,J⟩:∃ z,w.alloc (.map #[] 0)=z:=⟨_,rfl⟩
 obtain ⟨b,hb⟩:∃ z,w.heap.size=z:=⟨_,rfl⟩
 rw[J] at HK HM ⊢;rw[hb] at HM ⊢;have b4:=zx hb;clear J b3 hb;go_wp2;go_loopw [9] (fun i wr=>∃ n:Nat,n≤l.length∧i=zW zX n∧Hid (∀ j,j<n→dV l j=true)∧Hid (cX wr b n (iy (l.take n)))∧Hid (aa [] w wr)) (fun i _=>l.length-(intOf i).toNat)
 case atStart=>exact ⟨0,zE _,rfl,zx (fun j hj=>absurd hj (by omega)),HM,HK⟩
 obtain ⟨n,hn,rfl,bd,a3,hk⟩:=hrel;obtain ⟨z,rfl⟩:∃ z:World,z=wr:=⟨_,rfl⟩
 by_cases O:n<l.length
 ·have b0:(n:Int)<(l.length:Int):=by omega
  obtain ⟨g,o,rfl,_,hg,ba⟩:=(HR.out.keep hk.out).open' (by omega) (by omega);have d1:=ba (n*2) _ (al l n O).1;have d2:=ba (n*2+1) _ (al l n O).2;rw[←Nat.add_assoc] at d2;have a6:=HN.out _ (zH O);have B:dV l n=(fr l[n].name&&(decide (l[n].kind=1)||decide (l[n].kind=2)) && !((l.take n).any fun d=>d.name==l[n].name)):=by unfold dV;rw[zI O]
  have bn:l.take (n+1)=l.take n++[l[n]]:=List.take_succ_eq_append_getElem O;generalize l[n]=x at *;obtain ⟨nm,U⟩:=x;simp only at d1 d2 a6 B;rw[uH] at B;have bo:=wo (l.take n) nm;rw[List.length_take] at bo;have a2:aa [] z (z.alloc (zU #[zQ (bs nm),zW zX U] 109)):=(zN _ _).alloc _;have ad:=zO z 109 #[zQ (bs nm),zW zX U];have bq:=(a3.out.keep a2 (by simp)).look nm a6;obtain ⟨w6,a0,bb,bl⟩:=(a3.out.keep a2 (by simp)).put nm a6 (by omega) (iy (l.take n) nm+1);have a1:aa [b] (z.alloc (zU #[zQ (bs nm),zW zX U] 109)) w6:=(zN [b] _).grown bl (fun g hg=> .inl (by injection hg with hg;simp[hg]));have a4:=bb.look nm a6;simp only[if_pos] at a4;have a9:b≠z.heap.size:=by have:=a3.out.lt;omega
  have q0:w6.cell? ⟨z.heap.size,0,none⟩=some (zQ (bs nm)):=(ad.keep a1 (by simpa using Ne.symm a9)).cell 0;have q1:w6.cell? ⟨z.heap.size,1,none⟩=some (zW zX U):=(ad.keep a1 (by simpa using Ne.symm a9)).cell 1;have a5:Hid (aa [] w w6):=zx ((hk.out.trans a2).trans' a1 fun y hy bk=>by rw[zD.1 hy,←b4.out] at bk;exact absurd bk (Nat.lt_irrefl _));have bA:Hid (cX w6 b (n+1) (iy (l.take (n+1)))):=zx (by
   rw[bn,show iy (l.take n++[⟨nm,U⟩])=fun x=>if x=nm then iy (l.take n) nm+1 else iy (l.take n) x from funext fun x=>by
    rw[sT];by_cases h:x=nm
    ·rw[if_pos h,if_pos h,h]
    rw[if_neg h,if_neg h]]
   exact bb)
  have aA:Hid (dV l n=false→cN l=false):=zx (fun h=>jU O h);have J:IntKind.i64.wrap ((iy (l.take n) nm:Int)+1)=((iy (l.take n) nm+1:Nat):Int):=by simp[IntKind.wrap,IntKind.bits,IntKind.signed];omega
  have M:=pC nm (by omega) w6;obtain ⟨k,bj⟩:∃ k,iy (l.take n) nm=k:=⟨_,rfl⟩
  rw[bj] at B bq a4 a0 J bo;have hl2':(Instr.lookup 116 (.map (some b)) (zQ (bs nm)) false).run zy w6= .ok (zW zX ((k:Int)+1)) w6:=a4;have hrun':(Instr.mapUpdate 116 (.map (some b)) (zQ (bs nm)) (zW zX ((k:Int)+1))).run zy (z.alloc (zU #[zQ (bs nm),zW zX U] 109))= .ok () w6:=a0;have hw1':IntKind.i64.wrap ((k:Int)+1)=(k:Int)+1:=J;have I:=jL U 1 2 w6;clear ba a2 ad bb bl a1 a9 bn bj a4 a0 J a3 hk
  cases a7:fr nm with
  | false =>
   rw[a7] at M B;have HF:=zx (aA.out (by rw[B];rfl));clear B a7 hl2' I;go_wp2_with fail
   refine M.mono ?_;rintro e w7 ⟨rfl,rfl⟩;go_wp2;go_ret;exact ⟨by rw[HF.out];rfl,a5.out⟩
  | true =>
   rw[a7] at M B;clear a7;by_cases Z:0<k
   ·have HF:=zx (aA.out (by rw[B,decide_eq_true Z];simp))
    have b1:(1:Int)<(k:Int)+1:=by omega
    clear B I Z;go_wp2_with fail
    refine M.mono ?_;rintro e w7 ⟨rfl,rfl⟩;go_wp2;go_ret;exact ⟨by rw[HF.out];rfl,a5.out⟩
   have b1:¬(1:Int)<(k:Int)+1:=by omega
   by_cases D:1≤U∧U≤2
   ·have a8:dV l n=true:=by
     rw[B,decide_eq_false Z];rcases (by omega:U=1∨U=2) with rfl|rfl<;>rfl
    rw[decide_eq_true D] at I;have bB:Hid (∀ j,j<n+1→dV l j=true):=zx (fun j hj=>by
     by_cases h:j<n
     ·exact bd.out j h
     obtain rfl:j=n:=by omega
     exact a8)
    clear B a8 Z D;go_wp2_with fail
    refine M.mono ?_;rintro e w7 ⟨rfl,rfl⟩;go_wp2_with fail
    refine I.mono ?_;rintro e w8 ⟨rfl,rfl⟩;go_wp2;go_roundw
    case rel=>exact ⟨n+1,by omega,by go_num,bB,bA,a5⟩
    case measure=>simp[intOf];omega
   have HF:=zx (aA.out (by
    rw[B];have h1:U≠1:=fun h=>D (by omega)
    have h2:U≠2:=fun h=>D (by omega)
    simp[h1,h2]))
   rw[decide_eq_false D] at I;clear B Z D;go_wp2_with fail
   refine M.mono ?_;rintro e w7 ⟨rfl,rfl⟩;go_wp2_with fail
   refine I.mono ?_;rintro e w8 ⟨rfl,rfl⟩;go_wp2;go_ret;exact ⟨by rw[HF.out];rfl,a5.out⟩
 have b0:¬(n:Int)<(l.length:Int):=by omega
 have bm:Hid (decide ((1:Int)≤(l.length:Int)∧(l.length:Int)≤6)=cN l):=zx (by
  unfold cN;rw[show (List.range l.length).all (dV l)=true from List.all_eq_true.2 fun j hj=>bd.out j (by have:=List.mem_range.1 hj;omega),Bool.and_true,Bool.eq_iff_iff,decide_eq_true_iff,Bool.and_eq_true,decide_eq_true_iff,decide_eq_true_iff];omega)
 have I:=jL (l.length:Int) 1 6 z;rw[bm.out] at I;go_wp2_with fail
 refine I.mono ?_;rintro e w8 ⟨rfl,rfl⟩;go_wp2;go_ret;exact ⟨rfl,hk.out⟩
end
section
open Go.RowKit Go.ChangeShapes Go.WideShapes
def wF:DataW Unit→Bs
 | .lit (.string s)=>s
 | _=>[]
theorem En.cg:Tryz.prog.globalNamed "foreman/ops.compares" = some 2:=by kernel_rfl
theorem En.ct:(Tryz.prog.globals[2]?).map (·.type)=some 55:=by kernel_rfl
theorem pL {W:World} (h:laidMet zy [("foreman/ops.compares",Rows.laid_foreman_ops_compares)] W):∃ A c,W.cell? ⟨2,0,none⟩=some (.slice A 6 c)∧Rd W [] 1 A 6 (strs compares):=by
 obtain ⟨ps,⟨g',t',cs,fuel,p,q,ad,aA,I,hd,_,_⟩,_⟩:=h;obtain rfl:=Option.some.inj (En.cg.symm.trans ad);obtain rfl:=Option.some.inj (En.ct.symm.trans aA);rcases open_strings Tryz.underlying55 Tryz.underlying9 (by kernel_rfl) hd with ⟨_,h0⟩|⟨a,D,J,ss,a1,_,hl,a2,M,hx,B,hw⟩
 ·have:=congrArg Prod.fst h0
  cases this
 have h1:=congrArg Prod.fst hx;injection h1 with e1 e2;have e3:compares=(ss.take D).map (·.data.toList):=by
  have:=congrArg (List.map wF) e1;refine (Eq.trans (by rfl) this).trans ?_;unfold Go.ChangeShapes.strs;rw[List.map_map];rfl
 have a3:D≤ss.length:=by rw[M];split<;>omega
 have a0:D=6:=by
  have:=congrArg List.length e3;simp[compares] at this;omega
 subst a0;have Z:W.cell? ⟨2,0,none⟩=some (.slice (some a) 6 J):=by
  rw[World.var?_cell En.cg I 0,←Array.getElem?_toList,a1];rfl
 refine ⟨some a,J,Z,rfl,fun _=>⟨a,rfl,by simp,?_,fun j u U=>?_⟩⟩
 ·have:=zB _ _ (B 0 (by omega))
  rwa [dt] at this
 rw[e3] at U;unfold strs at U;rw[List.map_map,List.getElem?_map,Option.map_eq_some_iff] at U;obtain ⟨y,O,rfl⟩:=U;rw[List.getElem?_take] at O;split at O
 ·rename_i hj
  rw[B j (by omega),zM,O];rfl
 cases O
end
end Go.Proofs.YtpagiajlefejcaaGreatDoor
