/- The reference's reader in memory; ok, fails, see, take, must. The reference's reader: ok, see, take, fails, must, name. -/
import Derived.Test.YtpagiajlefejcaaGreatDoorPfiM8
import Derived.Test.YtpagiajlefejcaaGreatDoorPfiM4
import Derived.Test.YtpagiajlefejcaaGreatDoorPfiM7
import Derived.Test.YtpagiajlefejcaaGreatDoorPfiM5
import Derived.Deep.CutBlock
import Derived.Deep.DeepCutAuto
import Derived.Test.YtpagiajlefejcaaGreatDoorPfiM10
import Derived.ChangeSame
set_option linter.unusedSimpArgs false
set_option linter.unusedVariables false
set_option maxRecDepth 100000
set_option maxHeartbeats 16000000
namespace Go.Proofs.YtpagiajlefejcaaGreatDoor
open Go.Lib renaming hid → zx
open Go.Proofs.Tryz renaming prog → zy
open _root_.Nat renaming le_refl → zz, le_trans → zA, zero_le → zE
open Go.World renaming block_lt_of_cell? → zB, news_of_block → zJ
open _root_.List renaming mem_singleton → zD, length_append → zF, length_cons → zG, getElem_mem → zH, getElem?_eq_getElem → zI, length_nil → zK, length_tail → zL, getD_eq_getElem?_getD → zM
open aa renaming refl → zN
open ap renaming new → zO
open Go.Value renaming string → zQ, slice → zR, pointer → zS, int → zW
open Go.Ending renaming returned → zT
open Go.Obj renaming cells → zU
open Go.IntKind renaming i64 → zX
section
open Go.RowKit Go.BigFrame
attribute [local go_sem] ag ab ae af
def pk (x:Option (Int×Int)):Int×Int:=x.getD (0,-1)
def aE (W:World) (b:Nat) (l:List Tk) (x:Option (Int×Int)):Prop :=
 ∃ g o c,ap W b 170 #[zR (some ⟨g,o,none⟩) l.length c,zW zX (pk x).1,zW zX (pk x).2]∧(cD W g 177∧g<b)∧l.length≤c∧c≤9223372036854775807∧fP l∧tZ l∧(∀ y,x=some y→0<y.1) ∧
  ∀ j u,(bY l)[j]? = some u→W.cell? ⟨g,o+j,none⟩=some u
section
variable {W W':World} {b:Nat} {l:List Tk} {x:Option (Int×Int)} {L:List Nat}
theorem aE.endT (h:aE W b l x):fP l:=by obtain ⟨_,_,_,_,_,_,_,h,_⟩:=h;exact h
theorem aE.ty (h:aE W b l x):cD W b 170:=by obtain ⟨_,_,_,h,_⟩:=h;exact h.ty
theorem aE.lt (h:aE W b l x):b<W.heap.size:=by obtain ⟨_,_,_,h,_⟩:=h;exact h.lt
theorem aE.pos (h:aE W b l x):∀ y,x=some y→0<y.1:=by obtain ⟨_,_,_,_,_,_,_,_,_,h,_⟩:=h;exact h
theorem aE.far (h:aE W b l x) (B:aa L W W') (M:∀ y∈L,∃ e,cD W y e∧e≠170∧e≠177):aE W' b l x:=by
 obtain ⟨g,o,c,J,A,h3,U,h5,h6,Z,h8⟩:=h;have n1:b∉L:=fun D=>by
  obtain ⟨e,I,e1,e2⟩:=M b D;exact I.ne J.ty e1 rfl
 have O:g∉L:=fun D=>by
  obtain ⟨e,I,e1,e2⟩:=M g D;exact I.ne A.1 e2 rfl
 exact ⟨g,o,c,J.keep B n1,⟨A.1.keep B O,A.2⟩,h3,U,h5,h6,Z,fun j u hu=>B.cell_of (h8 j u hu) O⟩
theorem aE.keep (h:aE W b l x) (B:aa [] W W'):aE W' b l x:=h.far B (fun y A=>by cases A)
theorem aE.open' (h:aE W b l x):∃ g o c,W.cell? ⟨b,0,none⟩=some (zR (some ⟨g,o,none⟩) l.length c)∧W.cell? ⟨b,1,none⟩=some (zW zX (pk x).1)∧W.cell? ⟨b,2,none⟩=some (zW zX (pk x).2)∧(W.frozen? ⟨b,0,none⟩=false∧W.frozen? ⟨b,1,none⟩=false∧W.frozen? ⟨b,2,none⟩=false)∧b<W.heap.size∧g<W.heap.size∧g≠b∧0<l.length∧l.length≤c∧c≤9223372036854775807 ∧
  W.cell? ⟨g,o,none⟩=some (zW zX (ax l).kind)∧W.cell? ⟨g,o+1,none⟩=some (zQ (bs (ax l).text))∧W.cell? ⟨g,o+2,none⟩=some (zW zX (ax l).at_)∧ru (ax l):=by
 obtain ⟨g,o,c,A,J,U,M,O,Z,h7,B⟩:=h;have D:=O.pos
 cases l with
 | nil=>simp at D
 | cons t r =>
  have I:=B 0 (zW zX t.kind) rfl;exact ⟨g,o,c,A.cell 0,A.cell 1,A.cell 2,⟨A.frozen 0,A.frozen 1,A.frozen 2⟩,A.lt,zB _ _ I,Nat.ne_of_lt J.2,D,U,M,I,B 1 (zQ (bs t.text)) rfl,B 2 (zW zX t.at_) rfl,Z t (List.mem_cons_self ..)⟩
theorem aE.bad (h:aE W b l x) {y:Int×Int} (Z:0<y.1):aE ((W.setCell ⟨b,1,none⟩ (zW zX y.1)).setCell ⟨b,2,none⟩ (zW zX y.2)) b l (some y)∧aa [b] W ((W.setCell ⟨b,1,none⟩ (zW zX y.1)).setCell ⟨b,2,none⟩ (zW zX y.2)):=by
 obtain ⟨g,o,c,M,B,h3,J,O,h6,h7,U⟩:=h;have D:aa [b] W ((W.setCell ⟨b,1,none⟩ (zW zX y.1)).setCell ⟨b,2,none⟩ (zW zX y.2)):=((zN _ _).setCell (.inl (by simp)) _).setCell (.inl (by simp)) _;have A:g∉[b]:=by simpa using Nat.ne_of_lt B.2
 exact ⟨⟨g,o,c,ei (eh M),⟨B.1.keep D A,B.2⟩,h3,J,O,h6,fun z I=>by injection I with I;rw[←I];exact Z,fun j u hu=>D.cell_of (U j u hu) A⟩,D⟩
theorem aE.step {g o c:Nat} (h:aE W b l x) (hc:W.cell? ⟨b,0,none⟩=some (zR (some ⟨g,o,none⟩) l.length c)) (hk:(ax l).kind≠5) {n:Nat} {a:Addr} {d:Nat} (hn:n=l.length-1) (ha:a=⟨g,o+3,none⟩) (hd:d=c-1):aE (W.setCell ⟨b,0,none⟩ (zR (some a) n d)) b l.tail x∧aa [b] W (W.setCell ⟨b,0,none⟩ (zR (some a) n d)):=by
 subst ha hn hd;obtain ⟨I,B,M,O,J,h3,h4,h5,h6,h7,h8⟩:=h;have e:(Value.slice (some ⟨I,B,none⟩) l.length M)=zR (some ⟨g,o,none⟩) l.length c:=Option.some.inj ((O.cell 0).symm.trans hc);injection e with e1 e2 e3;injection e1 with e1;injection e1 with e1 e4;subst e1 e4 e3;have Z:=h5.tail hk;have D:I≠b:=Nat.ne_of_lt J.2;have A:aa [b] W (W.setCell ⟨b,0,none⟩ (zR (some ⟨I,B+3,none⟩) (l.length-1) (M-1))):=aa.setCell (zN _ _) (.inl (by simp)) _;refine ⟨⟨I,B+3,M-1,?_,⟨J.1.keep A (by simpa using D),J.2⟩,by rw[zL];omega,by omega,Z,fun t hm=>h6 t (List.mem_of_mem_tail hm),h7,fun j u U=>?_⟩,A⟩
 ·rw[zL]
  exact e6 O
 cases l with
 | nil=>cases U
 | cons t r =>
  have:=h8 (j+3) u (by simpa[bY,nL] using U);rw[show B+3+j=B+(j+3) by omega];exact A.cell_of this (by simpa using D)
end
end
section
open Go.RowKit Go.BigFrame
attribute [local go_sem] ag ab ae af KW.cell
def zh {α:Type} (P:List Tk→Except (Int×Int) (α×List Tk)) (l:List Tk) (x:Option (Int×Int)):Except (Int×Int) (α×List Tk):=match x with
 | none=>P l
 | some y=> .error y
def Rl {α:Type} (P:List Tk→Except (Int×Int) (α×List Tk)) (l:List Tk) (x:Option (Int×Int)) (a:α) (h:List Tk) (A:Option (Int×Int)):Prop:=match A with
 | none=>x=none∧P l= .ok (a,h)
 | some y=>zh P l x= .error y
theorem Rl.bind {α β:Type} {P:List Tk→Except (Int×Int) (α×List Tk)} {Q:α→List Tk→Except (Int×Int) (β×List Tk)} {l I J:List Tk} {x D B:Option (Int×Int)} {a:α} {c:β} (h:Rl P l x a I D) (k:Rl (Q a) I D c J B):Rl (fun l=>P l >>= fun p=>Q p.1 p.2) l x c J B:=by
 cases B with
 | none =>
  obtain ⟨rfl,M⟩:=k;obtain ⟨rfl,A⟩:=h;exact ⟨rfl,by show (P l >>= _)=_;rw[A,au];exact M⟩
 | some y =>
  cases D with
  | none =>
   obtain ⟨rfl,A⟩:=h;show (P l >>= _)=_;rw[A,au];exact k
  | some z =>
   have O:z=y:=by injection (show (Except.error z:Except (Int×Int) (β×List Tk))= .error y from k)
   subst O
   cases x with
   | none =>
    have h':P l= .error z:=h;show (P l >>= _)=_;rw[h',aD]
   | some u =>
    have U:u=z:=by injection (show (Except.error u:Except (Int×Int) (α×List Tk))= .error z from h)
    subst U;exact rfl
theorem zw (a b:Int) (W:World):(binOp .eql 47 (.agg #[zW zX a,zW zX b]) (.agg #[zW zX 0,zW zX (-1)])).run zy W= .ok (.bool (decide (a=0)&&decide (b= -1))) W:=by
 simp[go_sem];by_cases A:a=0<;>by_cases h:b= -1<;>simp[A,h,go_sem]
theorem su (x:Option (Int×Int)) (h:∀ y,x=some y→0<y.1):(decide ((pk x).1=0)&&decide ((pk x).2= -1))=x.isNone:=by
 cases x with
 | none=>rfl
 | some y =>
  have:=h y rfl;show (decide (y.1=0)&&decide (y.2= -1))=false;rw[decide_eq_false (by omega)];rfl
theorem aN {b:Nat} {l:List Tk} {x:Option (Int×Int)} (w:World) (U:dM w) (h:aE w b l x) :
  Calls zy 102 #[zS (some ⟨b,0,none⟩)] w fun e w'=>e=zT (.bool x.isNone)∧aa [] w w':=by
 obtain ⟨g,o,c,c0,c1,c2,-,lb,lg,-,Z,hc,D,-⟩:=h.open';have I:=su x h.pos;obtain ⟨B,J⟩:∃ B,x.isNone=B:=⟨_,rfl⟩
 rw[J] at I ⊢;obtain ⟨O,f1⟩:=U;have lf:=zB _ _ O;generalize (pk x).1=e1 at *;generalize (pk x).2=e2 at *;have A:=zw e1 e2;rw[I] at A;clear h I J c0 Z hc D;go_enter Tryz.func102,Tryz.ntmps102
 go_upto_region 1 with (fail)
 refine aB (by kernel_rfl) (by kernel_rfl) ?_;repeat (go_big_quiet_step (fail))
 refine wpQuiet_nil ?_;intro wx M;go_wp2;go_ret;exact ⟨rfl,M⟩
theorem cL (s:Bs) {b:Nat} {l:List Tk} {x:Option (Int×Int)} (w:World) (J:dM w) (h:aE w b l x) :
  Calls zy 96 #[zS (some ⟨b,0,none⟩),zQ (bs s)] w fun e w'=>e=zT (.bool (x.isNone&&aG s l))∧aa [] w w':=by
 have D:=zx (aN w J h);have HH:=zx h
 cases O:x.isNone with
 | false =>
  rw[O] at D;clear h J;go_enter Tryz.func96,Tryz.ntmps96
  go_wp2_with fail
  refine D.out.mono ?_;rintro Z U ⟨rfl,A⟩;go_wp2;go_ret;exact ⟨rfl,A⟩
 | true =>
  rw[O] at D;obtain ⟨B,M⟩:∃ B,aG s l=B:=⟨_,rfl⟩
  have I:=zx M;rw[M];unfold aG at I;clear h J M;cases h5:(ax l).kind != 5
  all_goals
   rw[h5] at I;go_enter Tryz.func96,Tryz.ntmps96
   go_wp2_with fail
   refine D.out.mono ?_;rintro Z U ⟨rfl,A⟩;have HK:=zx A;obtain ⟨g,o,c,c0,c1,c2,-,lb,lg,-,hn,hc,ad,k0,k1,k2,-⟩:=(HH.out.keep A).open';have aA:(0:Int)<(l.length:Int):=by omega
   clear A;go_wp2;go_ret;exact ⟨by rw[←I.out];rfl,HK.out⟩
theorem fX (s:Bs) {b:Nat} {l:List Tk} {x:Option (Int×Int)} (w:World) (O:dM w) (h:aE w b l x) :
  Calls zy 147 #[zS (some ⟨b,0,none⟩),zQ (bs s)] w fun e w'=>e=zT (.bool (x.isNone&&aG s l))∧aE w' b (if x.isNone&&aG s l then l.tail else l) x∧aa [b] w w':=by
 have I:=zx (cL s w O h);have HH:=zx h
 cases A:(x.isNone&&aG s l) with
 | false =>
  rw[A] at I;clear h O A;go_enter Tryz.func147,Tryz.ntmps147
  go_wp2_with fail
  refine I.out.mono ?_;rintro ev U ⟨rfl,D⟩;have J:=zx D;clear D;go_wp2;go_ret;exact ⟨rfl,HH.out.keep J.out,J.out.of_nil⟩
 | true =>
  have Z:aG s l=true:=by
   cases hx:x.isNone
   ·rw[hx] at A;cases A
   rw[hx] at A;exact A
  have B:=de Z;have h2:1<l.length:=by have:=(h.endT.tail B).pos;rw[zL] at this;omega
  have M:=zx B;have h3:(1:Int)≤(l.length:Int):=by omega
  rw[A] at I;clear h O A Z B;go_enter Tryz.func147,Tryz.ntmps147
  go_wp2_with fail
  refine I.out.mono ?_;rintro ev U ⟨rfl,D⟩;have J:=zx D;have HP:=zx (HH.out.keep D);obtain ⟨g,o,c,c0,c1,c2,⟨z0,-⟩,lb,lg,-,hn,hc,ad,k0,k1,k2,-⟩:=HP.out.open';have HT:=zx (fun n a d=> @aE.step U b l x g o c HP.out c0 M.out n a d);have h4:(1:Int)<(c:Int):=by omega
  clear D;go_wp2;go_ret;exact ⟨rfl,(HT.out _ _ _ (by omega) rfl (by omega)).1,J.out.of_nil.trans (HT.out _ _ _ (by omega) rfl (by omega)).2⟩
def cr (x:Option (Int×Int)) (e:Int) (l:List Tk):Option (Int×Int):=match x with
 | none=>some (e,(ax l).at_)
 | some y=>some y
theorem aY (e:Int) (he:0<e) {b:Nat} {l:List Tk} {x:Option (Int×Int)} (w:World) (J:dM w) (h:aE w b l x) :
  Calls zy 97 #[zS (some ⟨b,0,none⟩),zW zX e] w fun D w'=>D=zT (.tuple #[])∧aE w' b l (cr x e l)∧aa [b] w w':=by
 have O:=zx (aN w J h);have U:=zx h
 cases x with
 | some y =>
  clear h J;go_enter Tryz.func97,Tryz.ntmps97
  go_wp2_with fail
  refine O.out.mono ?_;rintro D w1 ⟨A,B⟩;have hev':D=zT (.bool false):=A;subst hev';have I:=zx B;clear B A;go_wp2;first|go_end0|refine bodyPost_ret (results_none rfl _ _ _) rfl ?_
  exact ⟨rfl,U.out.keep I.out,I.out.of_nil⟩
 | none =>
  clear h J;go_enter Tryz.func97,Tryz.ntmps97
  go_wp2_with fail
  refine O.out.mono ?_;rintro D w1 ⟨A,B⟩;have hev':D=zT (.bool true):=A;subst hev';have I:=zx B;have M:=zx (U.out.keep B);obtain ⟨g,o,c,c0,c1,c2,⟨z0,z1,z2⟩,lb,lg,-,hn,hc,ad,k0,k1,k2,-⟩:=M.out.open';have aA:(0:Int)<(l.length:Int):=by omega
  have Z:=zx (M.out.bad (y:=(e,(ax l).at_)) he);clear B A;go_wp2;first|go_end0|refine bodyPost_ret (results_none rfl _ _ _) rfl ?_
  exact ⟨rfl,Z.out.1,I.out.of_nil.trans Z.out.2⟩
def eD (s:Bs) (l:List Tk):Except (Int×Int) (Unit×List Tk):=aq s l >>= fun r=> .ok ((),r)
theorem aJ (s:Bs) {b:Nat} {l:List Tk} {x:Option (Int×Int)} (w:World) (J:dM w) (aA:0≠b) (h:aE w b l x) :
  Calls zy 100 #[zS (some ⟨b,0,none⟩),zQ (bs s)] w fun e w'=>e=zT (.tuple #[])∧(∃ l' x',aE w' b l' x'∧Rl (eD s) l x () l' x'∧l'.length≤l.length)∧aa [b] w w':=by
 have U:=zx (fX s w J h);have HF:=zx J
 cases I:(x.isNone&&aG s l) with
 | true =>
  rw[I] at U;have hx:x=none∧aG s l=true:=by
   cases x with
   | none=>exact ⟨rfl,I⟩
   | some y=>cases I
  obtain ⟨rfl,M⟩:=hx;have D:Hid (Rl (eD s) l none () l.tail none):=zx ⟨rfl,by unfold eD aq;rw[M];rfl⟩;clear h J I M;go_enter Tryz.func100,Tryz.ntmps100
  go_wp2_with fail
  refine U.out.mono ?_;rintro ev w1 ⟨rfl,B,A⟩;have O:=zx A;have HP:=zx B;clear A B;go_wp2;first|go_end0|refine bodyPost_ret (results_none rfl _ _ _) rfl ?_
  exact ⟨rfl,⟨_,_,HP.out,D.out,by simp⟩,O.out⟩
 | false =>
  rw[I] at U;have D:Hid (Rl (eD s) l x () l (cr x 3 l)):=zx (by
   cases x with
   | none =>
    have M:aG s l=false:=I;show eD s l=_;unfold eD aq;rw[M];rfl
   | some y=>rfl)
  clear h J I;go_enter Tryz.func100,Tryz.ntmps100
  go_wp2_with fail
  refine U.out.mono ?_;rintro ev w1 ⟨rfl,B,A⟩;have O:=zx A;have HP:=zx B;clear A B;go_wp2_with fail
  refine (aY 3 (by decide) w1 (HF.out.keep O.out (by simpa using aA)) HP.out).mono ?_;rintro ev w2 ⟨rfl,B,A⟩;have Z:=zx (O.out.trans A);have ad:=zx B;clear A B;go_wp2;first|go_end0|refine bodyPost_ret (results_none rfl _ _ _) rfl ?_
  exact ⟨rfl,⟨_,_,ad.out,D.out,zz _⟩,Z.out⟩
theorem qp {l:List Tk} {x:Option (Int×Int)} {z:Int×Int} (A:¬(ax l).kind=1) (B:10<(ax l).text.length) (h:cr (cr x 3 l) 4 l=some z):Rl aj l x [] l (some z):=by
 cases x with
 | some y=>exact congrArg Except.error (by injection h)
 | none =>
  show aj l= .error z;unfold aj;rw[if_pos A];exact congrArg Except.error (by injection h)
theorem qq {l:List Tk} {x:Option (Int×Int)} {z:Int×Int} (A:¬(ax l).kind=1) (B:¬10<(ax l).text.length) (h:cr x 3 l=some z):Rl aj l x [] l (some z):=by
 cases x with
 | some y=>exact congrArg Except.error (by injection h)
 | none =>
  show aj l= .error z;unfold aj;rw[if_pos A];exact congrArg Except.error (by injection h)
theorem qs {l:List Tk} {x:Option (Int×Int)} {z:Int×Int} (B:(ax l).kind=1) (A:10<(ax l).text.length) (h:cr x 4 l=some z):Rl aj l x [] l (some z):=by
 cases x with
 | some y=>exact congrArg Except.error (by injection h)
 | none =>
  show aj l= .error z;unfold aj;rw[if_neg (fun e=>e B),if_pos A];exact congrArg Except.error (by injection h)
theorem qt {l:List Tk} {x:Option (Int×Int)} {z:Int×Int} (B:(ax l).kind=1) (A:¬10<(ax l).text.length) (h:x=some z):Rl aj l x [] l (some z):=by
 cases x with
 | some y=>exact congrArg Except.error (by injection h)
 | none =>
  show aj l= .error z;unfold aj;cases h
theorem aS {b:Nat} {l:List Tk} {x:Option (Int×Int)} (w:World) (hF:dM w) (a1:0≠b) (h:aE w b l x) :
  Calls zy 101 #[zS (some ⟨b,0,none⟩)] w fun e w'=>∃ s l' x',e=zT (zQ (bs s))∧aE w' b l' x'∧Rl aj l x s l' x'∧s.length≤10∧l'.length≤l.length∧aa [b] w w':=by
 have HH:=zx h;have HF:=zx hF;obtain ⟨g,o,c,c0,c1,c2,⟨z0,z1,z2⟩,lb,lg,-,hn,hc,a4,k0,k1,k2,-⟩:=h.open';have a6:(0:Int)<(l.length:Int):=by omega
 obtain ⟨kd,a5⟩:∃ kd,(ax l).kind=kd:=⟨_,rfl⟩
 rw[a5] at k0;clear h hF;by_cases e1:kd=1
 ·subst e1
  have a3:=zx a5;clear a5;by_cases h2:10<(ax l).text.length
  ·have t2:(10:Int)<((ax l).text.length:Int):=by omega
   have O:=(HH.out.keep ((zN [] w).alloc (zU #[zW zX 1,zQ (bs (ax l).text),zW zX (ax l).at_] 177)));have J:aa [b] w (w.alloc (zU #[zW zX 1,zQ (bs (ax l).text),zW zX (ax l).at_] 177)):=((zN [] w).alloc _).of_nil;go_enter Tryz.func101,Tryz.ntmps101
   go_upto_region 2 with (fail)
   obtain ⟨y0,M⟩:∃ z,w.alloc (zU #[zW zX 1,zQ (bs (ax l).text),zW zX (ax l).at_] 177)=z:=⟨_,rfl⟩
   have B:ap y0 w.heap.size 177 #[zW zX 1,zQ (bs (ax l).text),zW zX (ax l).at_]:=by rw[←M];exact zO _ _ _
   rw[M] at O J ⊢;obtain ⟨tb,ad⟩:∃ z,w.heap.size=z:=⟨_,rfl⟩
   have a2:Hid (tb∉[b]):=zx (by have:=HH.out.lt;simp;omega);rw[ad] at B ⊢;have A:=zx B;have HP:=zx O;have Z:=zx J;have q0:y0.cell? ⟨tb,0,none⟩=some (zW zX 1):=B.cell 0;have q1:y0.cell? ⟨tb,1,none⟩=some (zQ (bs (ax l).text)):=B.cell 1;have lt:=B.lt;clear B O J M ad c0 c1 c2 z0 z1 z2 lb lg hn hc a4 k0 k1 k2 a6;go_wp2_with fail
   refine (aY 4 (by decide) y0 (HF.out.keep Z.out (by simpa using a1)) HP.out).mono ?_;rintro ev y1 ⟨rfl,hp,I⟩;have HP':=zx hp;have HK':=zx (Z.out.trans I);have HBX':=zx (A.out.keep I a2.out);clear HP Z A q0 q1 lt;have HP:=HP';have Z:=HK';have A:=HBX';have q0:y1.cell? ⟨tb,0,none⟩=some (zW zX 1):=A.out.cell 0;have q1:y1.cell? ⟨tb,1,none⟩=some (zQ (bs (ax l).text)):=A.out.cell 1;have lt:=A.out.lt;clear hp I HP' HK' HBX';have HO:=zx (aN y1 (HF.out.keep Z.out (by simpa using a1)) HP.out);obtain ⟨x2,D⟩:∃ x2,(cr x 4 l)=x2:=⟨_,rfl⟩
   rw[D] at HO HP
   cases x2 with
   | some z =>
    have HR:Hid (Rl aj l x [] l (some z)):=zx (qs a3.out h2 D);clear D h2;go_wp2_with fail
    refine HO.out.mono ?_;rintro ev w9 ⟨U,I⟩;have hev':ev=zT (.bool false):=U;subst hev';have a0:=zx (Z.out.trans I.of_nil);have aA:=zx (HP.out.keep I);clear U I;go_wp2;go_ret;exact ⟨[],l,_,rfl,aA.out,HR.out,zE _,zz _,a0.out⟩
   | none =>
    exact absurd D (by cases x<;>simp[cr])
  have t2:¬(10:Int)<((ax l).text.length:Int):=by omega
  have O:=(HH.out.keep ((zN [] w).alloc (zU #[zW zX 1,zQ (bs (ax l).text),zW zX (ax l).at_] 177)));have J:aa [b] w (w.alloc (zU #[zW zX 1,zQ (bs (ax l).text),zW zX (ax l).at_] 177)):=((zN [] w).alloc _).of_nil;go_enter Tryz.func101,Tryz.ntmps101
  go_upto_region 2 with (fail)
  obtain ⟨y0,M⟩:∃ z,w.alloc (zU #[zW zX 1,zQ (bs (ax l).text),zW zX (ax l).at_] 177)=z:=⟨_,rfl⟩
  have B:ap y0 w.heap.size 177 #[zW zX 1,zQ (bs (ax l).text),zW zX (ax l).at_]:=by rw[←M];exact zO _ _ _
  rw[M] at O J ⊢;obtain ⟨tb,ad⟩:∃ z,w.heap.size=z:=⟨_,rfl⟩
  have a2:Hid (tb∉[b]):=zx (by have:=HH.out.lt;simp;omega);rw[ad] at B ⊢;have A:=zx B;have HP:=zx O;have Z:=zx J;have q0:y0.cell? ⟨tb,0,none⟩=some (zW zX 1):=B.cell 0;have q1:y0.cell? ⟨tb,1,none⟩=some (zQ (bs (ax l).text)):=B.cell 1;have lt:=B.lt;clear B O J M ad c0 c1 c2 z0 z1 z2 lb lg hn hc a4 k0 k1 k2 a6;have HO:=zx (aN y0 (HF.out.keep Z.out (by simpa using a1)) HP.out);obtain ⟨x2,D⟩:∃ x2,x=x2:=⟨_,rfl⟩
  rw[D] at HO HP
  cases x2 with
  | some z =>
   have HR:Hid (Rl aj l x [] l (some z)):=zx (qt a3.out h2 D);clear D h2;go_wp2_with fail
   refine HO.out.mono ?_;rintro ev w9 ⟨U,I⟩;have hev':ev=zT (.bool false):=U;subst hev';have a0:=zx (Z.out.trans I.of_nil);have aA:=zx (HP.out.keep I);clear U I;go_wp2;go_ret;exact ⟨[],l,_,rfl,aA.out,HR.out,zE _,zz _,a0.out⟩
  | none =>
   have bb:x=none:=D;subst bb;have HR:Hid (Rl aj l none (ax l).text l.tail none):=zx ⟨rfl,by unfold aj;rw[if_neg (by rw[a3.out];decide),if_neg h2]⟩;have a8:(ax l).kind≠5:=by rw[a3.out];decide
   have hmore:1<l.length:=by have:=(HH.out.endT.tail a8).pos;rw[zL] at this;omega
   have h3:(1:Int)≤(l.length:Int):=by omega
   have ba:=zx a8;have a9:Hid ((ax l).text.length≤10):=zx (by omega);clear D h2 a8;go_wp2_with fail
   refine HO.out.mono ?_;rintro ev w9 ⟨U,I⟩;have hev':ev=zT (.bool true):=U;subst hev';have a0:=zx (Z.out.trans I.of_nil);have aA:=zx (HP.out.keep I);have a7:=zx (A.out.keep I (by simp));obtain ⟨g,o,c,c0,c1,c2,⟨z0,-⟩,lb,lg,-,hn,hc,a4,-⟩:=aA.out.open';have HT:=zx (fun n a d=> @aE.step w9 b l none g o c aA.out c0 ba.out n a d);have h4:(1:Int)<(c:Int):=by omega
   have bd:¬tb=b:=by simpa using a2.out
   clear q0 q1 lt;have q1:w9.cell? ⟨tb,1,none⟩=some (zQ (bs (ax l).text)):=a7.out.cell 1;have lt:=a7.out.lt;clear U I;go_wp2;go_ret;exact ⟨(ax l).text,l.tail,none,rfl,(HT.out _ _ _ (by omega) rfl (by omega)).1,HR.out,a9.out,by rw[zL];omega,a0.out.trans (HT.out _ _ _ (by omega) rfl (by omega)).2⟩
 have t1:(kd != 1)=true:=by rw[bne_iff_ne];exact e1
 have a3:Hid (¬(ax l).kind=1):=zx (by rw[a5];exact e1);clear a5 e1;by_cases h2:10<(ax l).text.length
 ·have t2:(10:Int)<((ax l).text.length:Int):=by omega
  have O:=(HH.out.keep ((zN [] w).alloc (zU #[zW zX kd,zQ (bs (ax l).text),zW zX (ax l).at_] 177)));have J:aa [b] w (w.alloc (zU #[zW zX kd,zQ (bs (ax l).text),zW zX (ax l).at_] 177)):=((zN [] w).alloc _).of_nil;go_enter Tryz.func101,Tryz.ntmps101
  go_upto_region 2 with (fail)
  obtain ⟨y0,M⟩:∃ z,w.alloc (zU #[zW zX kd,zQ (bs (ax l).text),zW zX (ax l).at_] 177)=z:=⟨_,rfl⟩
  have B:ap y0 w.heap.size 177 #[zW zX kd,zQ (bs (ax l).text),zW zX (ax l).at_]:=by rw[←M];exact zO _ _ _
  rw[M] at O J ⊢;obtain ⟨tb,ad⟩:∃ z,w.heap.size=z:=⟨_,rfl⟩
  have a2:Hid (tb∉[b]):=zx (by have:=HH.out.lt;simp;omega);rw[ad] at B ⊢;have A:=zx B;have HP:=zx O;have Z:=zx J;have q0:y0.cell? ⟨tb,0,none⟩=some (zW zX kd):=B.cell 0;have q1:y0.cell? ⟨tb,1,none⟩=some (zQ (bs (ax l).text)):=B.cell 1;have lt:=B.lt;clear B O J M ad c0 c1 c2 z0 z1 z2 lb lg hn hc a4 k0 k1 k2 a6;go_wp2_with fail
  refine (aY 3 (by decide) y0 (HF.out.keep Z.out (by simpa using a1)) HP.out).mono ?_;rintro ev y1 ⟨rfl,hp,I⟩;have HP':=zx hp;have HK':=zx (Z.out.trans I);have HBX':=zx (A.out.keep I a2.out);clear HP Z A q0 q1 lt;have HP:=HP';have Z:=HK';have A:=HBX';have q0:y1.cell? ⟨tb,0,none⟩=some (zW zX kd):=A.out.cell 0;have q1:y1.cell? ⟨tb,1,none⟩=some (zQ (bs (ax l).text)):=A.out.cell 1;have lt:=A.out.lt;clear hp I HP' HK' HBX';go_wp2_with fail
  refine (aY 4 (by decide) y1 (HF.out.keep Z.out (by simpa using a1)) HP.out).mono ?_;rintro ev y2 ⟨rfl,hp,I⟩;have HP':=zx hp;have HK':=zx (Z.out.trans I);have HBX':=zx (A.out.keep I a2.out);clear HP Z A q0 q1 lt;have HP:=HP';have Z:=HK';have A:=HBX';have q0:y2.cell? ⟨tb,0,none⟩=some (zW zX kd):=A.out.cell 0;have q1:y2.cell? ⟨tb,1,none⟩=some (zQ (bs (ax l).text)):=A.out.cell 1;have lt:=A.out.lt;clear hp I HP' HK' HBX';have HO:=zx (aN y2 (HF.out.keep Z.out (by simpa using a1)) HP.out);obtain ⟨x2,D⟩:∃ x2,(cr (cr x 3 l) 4 l)=x2:=⟨_,rfl⟩
  rw[D] at HO HP
  cases x2 with
  | some z =>
   have HR:Hid (Rl aj l x [] l (some z)):=zx (qp a3.out h2 D);clear D h2;go_wp2_with fail
   refine HO.out.mono ?_;rintro ev w9 ⟨U,I⟩;have hev':ev=zT (.bool false):=U;subst hev';have a0:=zx (Z.out.trans I.of_nil);have aA:=zx (HP.out.keep I);clear U I;go_wp2;go_ret;exact ⟨[],l,_,rfl,aA.out,HR.out,zE _,zz _,a0.out⟩
  | none =>
   exact absurd D (by cases x<;>simp[cr])
 have t2:¬(10:Int)<((ax l).text.length:Int):=by omega
 have O:=(HH.out.keep ((zN [] w).alloc (zU #[zW zX kd,zQ (bs (ax l).text),zW zX (ax l).at_] 177)));have J:aa [b] w (w.alloc (zU #[zW zX kd,zQ (bs (ax l).text),zW zX (ax l).at_] 177)):=((zN [] w).alloc _).of_nil;go_enter Tryz.func101,Tryz.ntmps101
 go_upto_region 2 with (fail)
 obtain ⟨y0,M⟩:∃ z,w.alloc (zU #[zW zX kd,zQ (bs (ax l).text),zW zX (ax l).at_] 177)=z:=⟨_,rfl⟩
 have B:ap y0 w.heap.size 177 #[zW zX kd,zQ (bs (ax l).text),zW zX (ax l).at_]:=by rw[←M];exact zO _ _ _
 rw[M] at O J ⊢;obtain ⟨tb,ad⟩:∃ z,w.heap.size=z:=⟨_,rfl⟩
 have a2:Hid (tb∉[b]):=zx (by have:=HH.out.lt;simp;omega);rw[ad] at B ⊢;have A:=zx B;have HP:=zx O;have Z:=zx J;have q0:y0.cell? ⟨tb,0,none⟩=some (zW zX kd):=B.cell 0;have q1:y0.cell? ⟨tb,1,none⟩=some (zQ (bs (ax l).text)):=B.cell 1;have lt:=B.lt;clear B O J M ad c0 c1 c2 z0 z1 z2 lb lg hn hc a4 k0 k1 k2 a6;go_wp2_with fail
 refine (aY 3 (by decide) y0 (HF.out.keep Z.out (by simpa using a1)) HP.out).mono ?_;rintro ev y1 ⟨rfl,hp,I⟩;have HP':=zx hp;have HK':=zx (Z.out.trans I);have HBX':=zx (A.out.keep I a2.out);clear HP Z A q0 q1 lt;have HP:=HP';have Z:=HK';have A:=HBX';have q0:y1.cell? ⟨tb,0,none⟩=some (zW zX kd):=A.out.cell 0;have q1:y1.cell? ⟨tb,1,none⟩=some (zQ (bs (ax l).text)):=A.out.cell 1;have lt:=A.out.lt;clear hp I HP' HK' HBX';have HO:=zx (aN y1 (HF.out.keep Z.out (by simpa using a1)) HP.out);obtain ⟨x2,D⟩:∃ x2,(cr x 3 l)=x2:=⟨_,rfl⟩
 rw[D] at HO HP
 cases x2 with
 | some z =>
  have HR:Hid (Rl aj l x [] l (some z)):=zx (qq a3.out h2 D);clear D h2;go_wp2_with fail
  refine HO.out.mono ?_;rintro ev w9 ⟨U,I⟩;have hev':ev=zT (.bool false):=U;subst hev';have a0:=zx (Z.out.trans I.of_nil);have aA:=zx (HP.out.keep I);clear U I;go_wp2;go_ret;exact ⟨[],l,_,rfl,aA.out,HR.out,zE _,zz _,a0.out⟩
 | none =>
  exact absurd D (by cases x<;>simp[cr])
end
section
open Go.RowKit Go.BigFrame
attribute [local go_sem] ag ab ae af
theorem aE.left {W:World} {b:Nat} {l:List Tk} {x:Option (Int×Int)} (h:aE W b l x):fw b W=l.length:=by
 obtain ⟨g,o,c,A,_⟩:=h;unfold fw;rw[A.cell 0];rfl
theorem fC {W B:World} {A b n size:Nat} {e:TypeId} {v:Value} {xs:List Value} {l:List Tk} {x:Option (Int×Int)} (h:W.ownsRow A e size v n xs) (D:aE W b l x) (I:aa [b] W B) (J:e≠170):B.ownsRow A e size v n xs :=
 bw h I (fun y M=>⟨170,by rw[zD.1 M];exact D.ty,J⟩)
theorem aE.grown {W I:World} {b:Nat} {l:List Tk} {x:Option (Int×Int)} {A:Option Nat} {e:TypeId} (h:aE W b l x) (D:W.grownBy I A) (M:∀ y,A=some y→cD W y e) (O:e≠170) (J:e≠177):aE I b l x :=
 h.far (L:=A.toList) (aa.grown (zN _ W) D (fun g D=> .inl (by rw[D];simp))) (fun y B=>⟨e,M y (by
  cases A with
  | none=>cases B
  | some z=>simp at B;rw[B]),O,J⟩)
theorem Rl.stay {α:Type} {P:List Tk→Except (Int×Int) (α×List Tk)} {l:List Tk} {x:Option (Int×Int)} {a:α} (h:x=none→P l= .ok (a,l)):Rl P l x a l x:=by
 cases x with
 | none=>exact ⟨rfl,h rfl⟩
 | some y=>rfl
theorem pm:bR=fun l=>aj l >>= fun p=>bz p.2.length p.2 [p.1]:=rfl
theorem j6 {n:Nat} {q:List Tk} {A:List Bs} (h:aG [44] q=true):bz (n+1) q A=(aj q.tail >>= fun p=>bz n p.2 (A++[p.1])):=by
 conv=>lhs;unfold bz
 rw[if_pos h]
theorem jI {b:Nat} {l:List Tk} {x:Option (Int×Int)} (w:World) (hF:dM w) (a2:0<b) (h:aE w b l x) (b4:l.length≤1000000) :
  Calls zy 149 #[zS (some ⟨b,0,none⟩)] w fun e w'=>∃ ns v J I,e=zT v∧w'.ownsRow w.heap.size 9 1 v ns.length (strs ns)∧aE w' b J I∧Rl bR l x ns J I∧(∀ s∈ns,s.length≤10)∧J.length≤l.length∧aa [b] w w':=by
 obtain ⟨i0,hi,ch,cv,ct⟩:=info_parts eF;have HL:=zx b4;have HF:=zx hF;have H:=zx (aS w hF (Nat.ne_of_lt a2) h);have bn:Hid (0∉[b]):=zx (by simpa using Nat.ne_of_lt a2);have cq:=h.lt;have c2:Hid (0<w.heap.size):=zx (by omega);clear h b4 hF cq;go_enter Tryz.func149,Tryz.ntmps149
 go_wp2_with fail
 refine H.out.mono ?_;rintro ev w2 ⟨s,q,O,rfl,bA,a8,ba,bo,a3⟩;have bd:=zx (bA.keep ((zN _ _).alloc (zU #[zQ (bs s)] 9)));have bB:=zx (a3.alloc (zU #[zQ (bs s)] 9));have bl:Hid ((w2.alloc (zU #[zQ (bs s)] 9)).ownsRow w.heap.size 9 1 (zR (some ⟨w2.heap.size,0,none⟩) 1 1) [s].length (strs [s])):=zx (gg (zO w2 9 #[zQ (bs s)]) a3.size rfl (by decide));have ad:Hid (∀ ns J I,Rl (fun r=>bz q.length r [s]) q O ns J I→Rl bR l x ns J I):=zx (fun ns J I hq=>by
  rw[pm];refine Rl.bind (Q:=fun a r=>bz r.length r [a]) a8 ?_
  cases I with
  | none=>exact ⟨hq.1,hq.2⟩
  | some y =>
   cases O with
   | none=>exact hq
   | some z=>exact hq)
 have U:Hid (∀ u∈[s],u.length≤10):=zx (fun u hu=>by rw[zD.1 hu];exact ba);have a7:=zx bo;clear bA a3 a8 ba bo;go_wp2_with fail
 go_loopw [3] (fun v wr=>∃ (A:List Bs) (q:List Tk) (O:Option (Int×Int)) (n:Nat),Hid (∀ ns J I,Rl (fun r=>bz n r A) q O ns J I→Rl bR l x ns J I)∧q.length≤n∧q.length≤l.length∧A.length+q.length≤l.length+1∧Hid (∀ u∈A,u.length≤10)∧Hid (aE wr b q O)∧Hid (wr.ownsRow w.heap.size 9 1 v A.length (strs A))∧Hid (aa [b] w wr)) (fun _ wr=>fw b wr)
 case atStart=>exact ⟨[s],q,O,q.length,ad,zz _,a7.out,by have:=a7.out;simp;omega,U,bd,bl,bB⟩
 clear ad bd bl bB U a7;obtain ⟨A,q,O,n,ad,c4,cu,c0,U,HP,HO,HK⟩:=hrel;have c3:=HP.out.endT.pos;have HM:=zx HP.out.left;have cf:Hid (dM wr):=zx (HF.out.keep HK.out bn.out);have HT:=fX [44] wr cf.out HP.out
 cases hs:(O.isNone&&aG [44] q) with
 | false =>
  rw[hs] at HT;have a0:=zx HT;have cx:Hid (Rl bR l x A q O):=zx (ad.out _ _ _ (Rl.stay (fun e=>by
   subst e;exact qo hs n A)))
  clear HT hs;go_wp2_with fail
  refine a0.out.mono ?_;rintro ev w3 ⟨rfl,Z,M⟩;have a1:=zx (fC HO.out HP.out M (by decide));go_wp2;go_ret;exact ⟨A,_,q,O,rfl,a1.out,Z,cx.out,U.out,cu,HK.out.trans M⟩
 | true =>
  rw[hs,if_pos rfl] at HT;have hx:O=none∧aG [44] q=true:=by
   cases O with
   | none=>exact ⟨rfl,hs⟩
   | some y=>cases hs
  obtain ⟨rfl,b5⟩:=hx;have a0:=zx HT;obtain ⟨n,rfl⟩:∃ k,n=k+1:=⟨n-1,by omega⟩
  have HS:=zx b5;clear HT hs b5;go_wp2_with fail
  refine a0.out.mono ?_;rintro ev w3 ⟨rfl,Z,M⟩;have a1:=zx (fC HO.out HP.out M (by decide));have a5:=zx (HK.out.trans M);have H4:=zx (aS w3 (HF.out.keep a5.out bn.out) (Nat.ne_of_lt a2) Z);have bk:=zx Z;have bj:=zx (show A.length+1≤maxLen∧(A.length+1)*16≤140737488355328 by have:=HL.out;simp only[maxLen];omega);clear Z M a0;go_wp2_with fail
  refine H4.out.mono ?_;rintro ev w4 ⟨s',r',x2,rfl,bb,b3,bq,b0,a6⟩;have a4:=zx (fC a1.out bk.out a6 (by decide));have cj:=zx (bb.keep ((zN _ _).alloc (zU #[zQ (bs s')] 9)));have b6:=zx (a5.out.trans a6);have cp:=zx (show w.heap.size≤w4.heap.size+1 from Nat.le_succ_of_le b6.out.size);have b1:Hid (∀ ns J I,Rl (fun r=>bz n r (A++[s'])) r' x2 ns J I→Rl bR l x ns J I):=zx (fun ns J I hq=>ad.out _ _ _ (by
   have hb:=Rl.bind (Q:=fun a r=>bz n r (A++[a])) b3 hq
   cases I with
   | none=>exact ⟨rfl,by show bz (n+1) q A=_;rw[j6 HS.out];exact hb.2⟩
   | some y =>
    show bz (n+1) q A=_;rw[j6 HS.out];exact hb))
  have ci:Hid (∀ u∈A++[s'],u.length≤10):=zx (fun u hu=>by
   rcases List.mem_append.1 hu with hu|hu
   ·exact U.out u hu
   rw[zD.1 hu];exact bq)
  have aA:Hid (r'.length+1≤q.length):=zx (by rw[zL] at b0;omega);clear bb a6 b3 bq b0 a1 bk a5 H4;go_wp2_with (at_builtin;refine wpList_append_lies _ rfl _ _ 55 rfl _ 9 i0 _ 1 16 Tryz.underlying55 hi ch cv ct rfl (by decide) _ A.length (strs A) rfl (a4.out.alloc _) ⟨w4.heap.size,0,none⟩ 1 1 [zQ (bs s')] rfl rfl (zJ (heap_alloc_new _ _)) (by simp[Value.oneCell']) (by decide) bj.out.1 bj.out.2 (by simp;exact cp.out) _ rfl ?_;intro gw c1 w8 D B bm b7)
  have co:=zx ((b6.out.alloc _).grown B (fun g hg=> .inr (a4.out.lt g hg).1));have a9:=zx (cj.out.grown B (fun y hy=>(av a4.out y hy).keep ((zN [] _).alloc _) (by simp)) (by decide) (by decide));rw[←eP] at D;have cg:Hid (w8.ownsRow w.heap.size 9 1 _ (A++[s']).length (strs (A++[s']))):=zx (by rw[zF];exact D);clear D B bm b7;go_wp2;go_roundw
  case rel=>exact ⟨A++[s'],r',x2,n,b1,by have:=aA.out;omega,by have:=aA.out;omega,by have:=aA.out;simp;omega,ci,a9,cg,co⟩
  case measure=>rw[a9.out.left,HM.out];exact aA.out
end
section
open Go.RowKit Go.BigFrame
attribute [local go_sem] ag ab ae af ue uf
theorem lK {ws:List Bs} {l:List Tk} (h:(ax l).text∉ws):bC ws l=dD 3 l:=by
 have A:∀ ws:List Bs,(ax l).text∉ws→dm l ws=none:=by
  intro ws
  induction ws with
  | nil=>intro _;rfl
  | cons a ws ih =>
   intro h;unfold dm;have:aG a l=false:=by
    unfold aG;have e:((ax l).text==a)=false:=by rw[beq_eq_false_iff_ne];intro e;exact h (by simp[e])
    rw[e,Bool.and_false]
   rw[this,ih (fun B=>h (List.mem_cons_of_mem _ B))];rfl
 unfold bC;rw[A ws h]
theorem jJ {ws:List Bs} {l:List Tk} (h:(ax l).text∈ws):bC ws l=(eD (ax l).text l >>= fun p=> .ok ((ax l).text,p.2)):=by
 by_cases A:(ax l).kind=5
 ·have D:∀ m,aG m l=false:=fun m=>by unfold aG;rw[A];rfl
  have I:∀ ws:List Bs,dm l ws=none:=by
   intro ws
   induction ws with
   | nil=>rfl
   | cons a ws ih=>unfold dm;rw[D,ih];rfl
  unfold bC eD aq;rw[I,D];rfl
 cases l with
 | nil=>exact absurd rfl A
 | cons t r =>
  have B:kt t=(t.kind,t.text):=rfl;have h':t.text∈ws:=h;have hk':t.kind≠5:=A;rw[vm B hk' h'];unfold eD;show _=((aq t.text (t::r) >>= fun r=>Except.ok ((),r)) >>= _);rw[tW B hk'];rfl
theorem fY (U:Bs) (ws:List Bs) (hU:32::(U++[32])=bJ ws) (hw:∀ v∈ws,v≠[]∧(32:UInt8)∉v) (a1:∀ v∈ws,v.length≤10) (ad:U.length≤1000) {b:Nat} {l:List Tk} {x:Option (Int×Int)} (w:World) (hE:gH w) (a6:0≠b) (a8:5≠b) (h:aE w b l x) :
  Calls zy 148 #[zS (some ⟨b,0,none⟩),zQ (bs U)] w fun e w'=>∃ s l' x',e=zT (zQ (bs s))∧aE w' b l' x'∧Rl (bC ws) l x s l' x'∧s.length≤10∧l'.length≤l.length∧aa [b] w w':=by
 have HH:=zx h;have HE:=zx hE;have HO:=zx (aN w hE.fine h);obtain ⟨g,o,c,c0,c1,c2,⟨z0,z1,z2⟩,lb,lg,-,hn,hc,a9,k0,k1,k2,a4⟩:=h.open';have ba:(0:Int)<(l.length:Int):=by omega
 have I:=a4.1.1.1;obtain ⟨tx,a0⟩:∃ tx,(ax l).text=tx:=⟨_,rfl⟩
 rw[a0] at k1 I;have aA:=zx a0;clear h hE a4 a0
 cases x with
 | some y =>
  go_enter Tryz.func148,Tryz.ntmps148
  go_wp2_with fail
  refine HO.out.mono ?_;rintro Z w1 ⟨B,A⟩;have hev':Z=zT (.bool false):=B;subst hev';have HK:=zx A;have HP:=zx (HH.out.keep A);clear B A;go_wp2_with fail
  refine (aY 3 (by decide) w1 (HE.out.quiet HK.out).fine HP.out).mono ?_;rintro Z w2 ⟨rfl,hp,A⟩;have J:=zx (HK.out.of_nil.trans A);have O:=zx hp;clear hp A;go_wp2;go_ret;exact ⟨[],l,_,rfl,O.out,rfl,zE _,zz _,J.out⟩
 | none =>
  by_cases M:tx∈ws
  ·have D:=fun W hW=>eS tx U ws hU hw I ad W hW
   rw[decide_eq_true M] at D;have a2:=zx D;have a7:=zx (a1 tx M);have HM:=zx (jJ (ws:=ws) (l:=l) (by rw[aA.out];exact M));clear D M hU hw a1 ad I;go_enter Tryz.func148,Tryz.ntmps148
   go_wp2_with fail
   refine HO.out.mono ?_;rintro Z w1 ⟨B,A⟩;have hev':Z=zT (.bool true):=B;subst hev';have HK:=zx A;have HP:=zx (HH.out.keep A);clear B A;go_wp2_with fail
   refine (a2.out w1 (HE.out.quiet HK.out)).mono ?_;rintro Z w2 ⟨rfl,rfl⟩;go_wp2_with fail
   refine (aJ tx w1 (HE.out.quiet HK.out).fine a6 HP.out).mono ?_;rintro Z w2 ⟨rfl,⟨l',x',hp,hr,a3⟩,A⟩;have J:=zx (HK.out.of_nil.trans A);have O:=zx hp;have HR:Hid (Rl (bC ws) l none tx l' x'):=zx (by
    have M:=HM.out;rw[aA.out] at M
    cases x' with
    | none=>exact ⟨rfl,by rw[M,hr.2];rfl⟩
    | some y =>
     show bC ws l=_;rw[M,show eD tx l= .error y from hr];rfl)
   have a5:=zx a3;clear hp A hr a3;go_wp2;go_ret;exact ⟨tx,l',x',rfl,O.out,HR.out,a7.out,a5.out,J.out⟩
  have D:=fun W hW=>eS tx U ws hU hw I ad W hW
  rw[decide_eq_false M] at D;have a2:=zx D;have HM:=zx (lK (ws:=ws) (l:=l) (by rw[aA.out];exact M));clear D M hU hw a1 ad I;go_enter Tryz.func148,Tryz.ntmps148
  go_wp2_with fail
  refine HO.out.mono ?_;rintro Z w1 ⟨B,A⟩;have hev':Z=zT (.bool true):=B;subst hev';have HK:=zx A;have HP:=zx (HH.out.keep A);clear B A;go_wp2_with fail
  refine (a2.out w1 (HE.out.quiet HK.out)).mono ?_;rintro Z w2 ⟨rfl,rfl⟩;go_wp2_with fail
  refine (aY 3 (by decide) w1 (HE.out.quiet HK.out).fine HP.out).mono ?_;rintro Z w2 ⟨rfl,hp,A⟩;have J:=zx (HK.out.of_nil.trans A);have O:=zx hp;clear hp A;go_wp2;go_ret;exact ⟨[],l,_,rfl,O.out,HM.out,zE _,zz _,J.out⟩
end
section
def eo (h:Option (Int×Int)) (v:Vl) (q:List Tk):Option (Int×Int):=if mf v then h else cr h 4 q
def mD (h:Option (Int×Int)) (q:List Tk):List Tk:=if h.isNone then q.tail else q
theorem ry (x:Option (Int×Int)) (e:Int) (l:List Tk):∃ y,cr x e l=some y:=by
 cases x with
 | none=>exact ⟨_,rfl⟩
 | some y=>exact ⟨y,rfl⟩
theorem pr {A:Bool} {q:List Tk} {y:Int×Int} {v:Vl} {B:Option (Int×Int)} (h:B=some y):Rl (bi A) q (some y) v (mD B q) B:=by
 subst h;exact rfl
theorem xW {A:Bool} {q:List Tk} {v:Vl} (h:bi A q=fm q v):Rl (bi A) q none v (mD (eo none v q) q) (eo none v q):=by
 unfold eo;by_cases B:mf v=true
 ·rw[if_pos B]
  exact ⟨rfl,by rw[h];unfold fm;rw[if_pos B];rfl⟩
 rw[if_neg B];show bi A q= .error (4,(ax q).at_);rw[h];unfold fm;rw[if_neg B];rfl
theorem xX {A:Bool} {q:List Tk} {v:Vl} {e:Int} (h:bi A q=dD e q):Rl (bi A) q none v (mD (eo (cr none e q) v q) q) (eo (cr none e q) v q):=by
 have e1:eo (cr none e q) v q=some (e,(ax q).at_):=by
  unfold eo;split<;>rfl
 rw[e1];exact h
theorem vx {h:Bool} {q:List Tk} {n:Int} (A:(ax q).kind=2) (B:Lib.atoiAll (ax q).text= .ok n):bi h q=fm q ⟨1,if h then -n else n,[]⟩:=by
 unfold bi;rw[A,B,if_neg (by simp),if_neg (by decide),if_pos rfl]
theorem vy {A:Bool} {q:List Tk} (B:(ax q).kind=2) (D:∀ n,Lib.atoiAll (ax q).text≠ .ok n):bi A q=dD 4 q:=by
 unfold bi;rw[B,if_neg (by simp),if_neg (by decide),if_pos rfl]
 cases h:Lib.atoiAll (ax q).text with
 | ok n=>exact absurd h (D n)
 | _=>rfl
theorem ug {q:List Tk} (h:(ax q).kind=3):bi false q=fm q ⟨2,0,fM (ax q).text⟩:=by
 unfold bi;rw[h,if_neg (by simp),if_pos rfl]
theorem uh {h:Bool} {q:List Tk} (A:(ax q).kind≠2) (B:(ax q).kind=3→h=true):bi h q=dD 3 q:=by
 unfold bi
 cases h with
 | true =>
  have:((ax q).kind != 2)=true:=by rw[bne_iff_ne];exact A
  rw[this,if_pos (by decide)]
 | false =>
  rw[if_neg (by simp),if_neg (fun e=>by cases B e),if_neg A]
theorem ui {l:List Tk} {x:Option (Int×Int)} {v:Vl} {I:List Tk} {B:Option (Int×Int)} (h:Rl (bi (x.isNone&&aG [45] l)) (if x.isNone&&aG [45] l then l.tail else l) x v I B):Rl di l x v I B:=by
 cases x with
 | some y =>
  cases B with
  | none=>exact absurd h.1 (by simp)
  | some z=>exact h
 | none =>
  have e:(Option.isNone (none:Option (Int×Int))&&aG [45] l)=aG [45] l:=by simp
  rw[e] at h
  cases D:aG [45] l with
  | true =>
   rw[D,if_pos rfl] at h;have A:di l=bi true l.tail:=by unfold di;rw[D,if_pos rfl]
   cases B with
   | none=>exact ⟨rfl,A.trans h.2⟩
   | some z=>exact A.trans h
  | false =>
   rw[D,if_neg (by decide)] at h;have A:di l=bi false l:=by unfold di;rw[D,if_neg (by decide)]
   cases B with
   | none=>exact ⟨rfl,A.trans h.2⟩
   | some z=>exact A.trans h
theorem xY {l:List Tk} {x:Option (Int×Int)} {v:Vl} {D:List Tk} {A:Option (Int×Int)} (I:x=none→(ax l).kind≠1) (h:Rl di l x v D A):Rl bN l x ⟨[],v⟩ D A:=by
 cases x with
 | some y =>
  cases A with
  | none=>exact absurd h.1 (by simp)
  | some z=>injection (show (Except.error y:Except (Int×Int) (Vl×List Tk))= .error z from h) with e;subst e;exact rfl
 | none =>
  have B:bN l=(di l >>= fun p=> .ok (⟨[],p.1⟩,p.2)):=by unfold bN;rw[if_neg (I rfl)]
  cases A with
  | none=>exact ⟨rfl,by rw[B,h.2];rfl⟩
  | some z =>
   show bN l=_;rw[B,show di l= .error z from h];rfl
theorem uj {l:List Tk} {s:Bs} {D:List Tk} {A:Option (Int×Int)} (I:(ax l).kind=1) (h:Rl aj l none s D A):Rl bN l none ⟨s,zV⟩ D A:=by
 have B:bN l=(aj l >>= fun p=> .ok (⟨p.1,zV⟩,p.2)):=by unfold bN;rw[if_pos I]
 cases A with
 | none=>exact ⟨rfl,by rw[B,h.2];rfl⟩
 | some z =>
  show bN l=_;rw[B,show aj l= .error z from h];rfl
theorem qv (w:Bs):fM (39::(w++[39]))=w:=by
 unfold fM;simp
end
section
open Go.RowKit Go.BigFrame
attribute [local go_sem] ag ab ae af
def RB (w:World) (lo:Nat):Prop:=∃ w0,iv w0∧gH w0∧aa [] w0 w∧w0.heap.size≤lo
section
variable {w w' W W':World} {lo b g i:Nat} {l:List Tk} {x:Option (Int×Int)}
theorem RB.fb (h:RB w lo):FB w lo:=by
 obtain ⟨w0,B,_,D,A⟩:=h;exact ⟨w0,B,D,A⟩
theorem RB.renv (h:RB w lo):gH w:=by
 obtain ⟨w0,_,A,B,_⟩:=h;exact A.quiet B
theorem RB.fine (h:RB w lo):dM w:=h.renv.fine
theorem RB.flt (h:RB w lo):0<lo:=by
 obtain ⟨w0,_,A,_,B⟩:=h;have:=zB _ _ A.fine.1;have D:0<w0.heap.size:=this;omega
theorem RB.mlt (h:RB w lo):5<lo:=by
 obtain ⟨w0,_,B,_,D⟩:=h;obtain ⟨m,A⟩:=B.mlen;have I:5<w0.heap.size:=zB _ _ A;omega
theorem RB.fne (h:RB w lo) (A:lo≤b):0≠b:=by have:=h.flt;omega
theorem RB.mne (h:RB w lo) (A:lo≤b):5≠b:=by have:=h.mlt;omega
theorem RB.go {L:List Nat} (h:RB w lo) (A:aa L w w') (J:∀ y∈L,lo≤y):RB w' lo:=by
 obtain ⟨w0,D,h1',B,I⟩:=h;exact ⟨w0,D,h1',B.trans' A (fun x M O=>by have:=J x M;omega),I⟩
theorem RB.quiet (h:RB w lo) (A:aa [] w w'):RB w' lo:=h.go A (fun x B=>by cases B)
theorem RB.one (h:RB w lo) (D:lo≤b) (A:aa [b] w w'):RB w' lo:=h.go A (fun x B=>by simp at B;omega)
theorem bG (h:aE w b l x) (D:aa [b] w w') {t:TypeId} {cs:Array Value} (A:ap w g t cs) (I:t≠170):ap w' g t cs :=
 A.keep D (fun B=>by
  have:g=b:=by simpa using B
  subst this;exact A.ty.ne h.ty I rfl)
theorem aE.set {t:TypeId} {cs:Array Value} (h:aE W b l x) (D:ap W g t cs) (B:t≠170) (A:t≠177) (u:Value):aE (W.setCell ⟨g,i,none⟩ u) b l x :=
 h.far (L:=[g]) (aa.setCell (zN _ _) (.inl (by simp)) _) (fun x I=>⟨t,by rw[zD.1 I];exact D.ty,B,A⟩)
theorem Rl.dead {α:Type} {P:List Tk→Except (Int×Int) (α×List Tk)} {y:Int×Int} {a:α} {B:List Tk} {A:Option (Int×Int)} (h:Rl P l (some y) a B A):A=some y:=by
 cases A with
 | none=>exact absurd h.1 (by simp)
 | some z =>
  have:(Except.error y:Except (Int×Int) (α×List Tk))= .error z:=h;injection this with e;rw[e]
theorem Rl.any {α:Type} {P:List Tk→Except (Int×Int) (α×List Tk)} {y:Int×Int} {a:α} {A:List Tk} (h:Rl P l x a A (some y)) (c:α) (q:List Tk):Rl P l x c q (some y):=h
end
theorem uk (s:Bs) (A:s.length≤1000000) (w:World):Calls zy 54 #[zQ (bs s),zQ (bs [39])] w fun e w'=>e=zT (zQ (bs (Lib.trimB s 39)))∧aa [] w w':=by
 refine (Tryz.strings_Trim_one (bs s) 39 (by decide) w (by rw[ag];omega)).mono ?_;rintro e w' ⟨rfl,h⟩;refine ⟨by rw[show (bs s).data.toList=s from by simp[bs]];rfl,?_⟩;rcases h with rfl|rfl
 ·exact zN _ _
 exact (zN _ _).drew
theorem ny (y:Int×Int) (v:Vl) (q:List Tk):eo (some y) v q=some y:=by
 unfold eo;split<;>rfl
theorem ul {A:Bool} {q:List Tk} {x:Option (Int×Int)} {v:Vl} (h:x=none→bi A q=fm q v):Rl (bi A) q x v (mD (eo x v q) q) (eo x v q):=by
 cases x with
 | none=>exact xW (h rfl)
 | some y=>exact pr (ny y v q)
theorem rz {A:Bool} {q:List Tk} {x:Option (Int×Int)} {v:Vl} {e:Int} (h:x=none→bi A q=dD e q):Rl (bi A) q x v (mD (eo (cr x e q) v q) q) (eo (cr x e q) v q):=by
 cases x with
 | none=>exact xX (h rfl)
 | some y=>exact pr (ny y v q)
theorem kB {x:Option (Int×Int)} {e:Int} {l:List Tk} {p:Prop} (h:cr x e l=none):p:=by
 obtain ⟨y,A⟩:=ry x e l;rw[A] at h;cases h
theorem um {s:Bs} (h:∃ w:Bs,s=39::(w++[39])∧(39:UInt8)∉w):fM s=Lib.trimB s 39∧(Lib.trimB s 39).length≤s.length:=by
 obtain ⟨w,rfl,A⟩:=h;rw[qv,pq A];exact ⟨rfl,by simp;omega⟩
theorem bI {w h:World} {b M V J:Nat} {q:List Tk} {O:Option (Int×Int)} {a0 a1 a2:Value} {cs:Array Value} (hp:aE h b q O) (A:ap h V 27 #[a0,a1,a2]) (U:ap h M 57 cs) (B:M≠V) (Z:aa [b] w h) (I:w.heap.size≤V) (he:RB h J) (D:J≤V) (k n u:Value) :
    aE (((h.setCell ⟨V,0,none⟩ k).setCell ⟨V,1,none⟩ n).setCell ⟨V,2,none⟩ u) b q O∧ap (((h.setCell ⟨V,0,none⟩ k).setCell ⟨V,1,none⟩ n).setCell ⟨V,2,none⟩ u) V 27 #[k,n,u]∧ap (((h.setCell ⟨V,0,none⟩ k).setCell ⟨V,1,none⟩ n).setCell ⟨V,2,none⟩ u) M 57 cs∧aa [b] w (((h.setCell ⟨V,0,none⟩ k).setCell ⟨V,1,none⟩ n).setCell ⟨V,2,none⟩ u)∧RB (((h.setCell ⟨V,0,none⟩ k).setCell ⟨V,1,none⟩ n).setCell ⟨V,2,none⟩ u) J :=
  ⟨((hp.set A (by decide) (by decide) _).set (A.set 0 _) (by decide) (by decide) _).set ((A.set 0 _).set 1 _) (by decide) (by decide) _,
   (((A.set 0 k).set 1 n).set 2 u).congr rfl,
   ((U.far (p:=⟨V,0,none⟩) B k).far (p:=⟨V,1,none⟩) B n).far (p:=⟨V,2,none⟩) B u,
   ((Z.setCell (.inr I) _).setCell (.inr I) _).setCell (.inr I) _,
   he.go (L:=[V]) ((((zN _ _).setCell (.inl (by simp)) _).setCell (.inl (by simp)) _).setCell (.inl (by simp)) _) (fun y hy=>by rw[zD.1 hy];exact D)⟩
theorem jk {l:List Tk} {b lo:Nat} {x:Option (Int×Int)} (w:World) (hE:RB w lo) (bn:lo≤b) (h:aE w b l x) (d9:l.length≤1000000) :
  Calls zy 198 #[zS (some ⟨b,0,none⟩)] w fun e w'=>∃ a l' x',e=zT (wG a)∧aE w' b l' x'∧Rl bN l x a l' x'∧l'.length≤l.length∧aa [b] w w':=by
 obtain ⟨M,hM⟩:∃ M,w.heap.size=M:=⟨_,rfl⟩
 have ch:=zO w 57 #[zQ ⟨#[]⟩,zW zX 0,zW zX 0,zQ ⟨#[]⟩];have b1:=(zN [] w).alloc (zU #[zQ ⟨#[]⟩,zW zX 0,zW zX 0,zQ ⟨#[]⟩] 57);have cx:=h.keep b1;have cp:=hE.quiet b1;have c4:Hid (M≠b):=zx (by have:=h.lt;omega);have a0:Hid (w.heap.size≤M):=zx (by omega);rw[hM] at ch;clear h hE;go_enter Tryz.func198,Tryz.ntmps198
 go_upto_region 1 with (fail)
 try rw[hM]
 obtain ⟨y0,c8⟩:∃ y,w.alloc (zU #[zQ ⟨#[]⟩,zW zX 0,zW zX 0,zQ ⟨#[]⟩] 57)=y:=⟨_,rfl⟩
 rw[c8] at ch b1 cx cp ⊢;have B:=zx ch;have U:=zx (aa.of_nil (L:=[b]) b1);have J:=zx cx;have O:=zx cp;clear ch b1 cx cp c8 hM;have HO:=zx (aN y0 O.out.fine J.out);by_cases hA:x=none∧(ax l).kind=1
 ·obtain ⟨rfl,bA⟩:=hA
  have a3:=zx bA;clear bA;go_wp2_with fail
  refine HO.out.mono ?_;rintro ev w1 ⟨aA,I⟩;have hev':ev=zT (.bool true):=aA;subst hev';have bm:=zx (U.out.trans I.of_nil);have a8:=zx (J.out.keep I);have bB:=zx (B.out.keep I (by simp));have bk:=zx (O.out.quiet I);obtain ⟨g,o,c,c0,c1,c2,-,lb,lg,-,hn,hc,b4,k0,k1,k2,-⟩:=a8.out.open';rw[a3.out] at k0;have ci:(0:Int)<(l.length:Int):=by omega
  clear aA I U J B O HO;go_wp2_with fail
  refine (aS w1 bk.out.fine (bk.out.fne bn) a8.out).mono ?_;rintro ev w2 ⟨s,l',x',rfl,hp,hr,hs,cj,I⟩;have a4:=bG a8.out I bB.out (by decide);have b6:=zx (bm.out.trans I);have bb:=zx hp;have a7:=zx a4;have HR:=zx (uj a3.out hr);have d3:=zx cj;have f0:=a4.frozen 0;have f1:=a4.frozen 1;have f2:=a4.frozen 2;have f3:=a4.frozen 3;have r0:w2.cell? ⟨M,0,none⟩=some (zQ ⟨#[]⟩):=a4.cell 0;have r1:w2.cell? ⟨M,1,none⟩=some (zW zX 0):=a4.cell 1;have r2:w2.cell? ⟨M,2,none⟩=some (zW zX 0):=a4.cell 2;have r3:w2.cell? ⟨M,3,none⟩=some (zQ ⟨#[]⟩):=a4.cell 3;have lr:=a4.lt;clear a4 hp hr hs cj I c0 c1 c2 lb lg hn hc b4 k0 k1 k2 ci bm a8 bB bk;go_wp2;have ad:=(((a7.out.set 0 (zQ (bs s))).set 1 (zW zX 0)).set 2 (zW zX 0)).set 3 (zQ ⟨#[]⟩);have y0:=ad.cell 0;have y1:=ad.cell 1;have y2:=ad.cell 2;have y3:=ad.cell 3;refine bodyPost_ret (v:= .agg #[zQ (bs s),zW zX 0,zW zX 0,zQ ⟨#[]⟩]) (by simp[results,Tryz.results198,go_sem,y0,y1,y2,y3]) rfl ?_;exact ⟨⟨s,zV⟩,l',x',rfl,(((bb.out.set a7.out (by decide) (by decide) _).set (a7.out.set 0 _) (by decide) (by decide) _).set ((a7.out.set 0 _).set 1 _) (by decide) (by decide) _).set (((a7.out.set 0 _).set 1 _).set 2 _) (by decide) (by decide) _,HR.out,d3.out,(((b6.out.setCell (.inr a0.out) _).setCell (.inr a0.out) _).setCell (.inr a0.out) _).setCell (.inr a0.out) _⟩
 have HA:Hid (x=none→(ax l).kind≠1):=zx (fun e h1=>hA ⟨e,h1⟩);have d4:Hid True:=zx trivial;go_cut [19] (fun v wx=>v= .bool false∧Hid (aE wx b l x)∧Hid (ap wx M 57 #[zQ ⟨#[]⟩,zW zX 0,zW zX 0,zQ ⟨#[]⟩])∧Hid (aa [b] w wx)∧Hid (RB wx lo))
 case first =>
  cases x with
  | some y =>
   clear hA;go_wp2_with fail
   refine HO.out.mono ?_;rintro ev w1 ⟨aA,I⟩;have hev':ev=zT (.bool false):=aA;subst hev';have bm:=zx (U.out.trans I.of_nil);have a8:=zx (J.out.keep I);have bB:=zx (B.out.keep I (by simp));have bk:=zx (O.out.quiet I);clear aA I U J B O HO;go_wp2;go_meet;exact ⟨rfl,a8,bB,bm,bk⟩
  | none =>
   have d5:((ax l).kind==1)=false:=by rw[beq_eq_false_iff_ne];exact HA.out rfl
   clear hA;go_wp2_with fail
   refine HO.out.mono ?_;rintro ev w1 ⟨aA,I⟩;have hev':ev=zT (.bool true):=aA;subst hev';have bm:=zx (U.out.trans I.of_nil);have a8:=zx (J.out.keep I);have bB:=zx (B.out.keep I (by simp));have bk:=zx (O.out.quiet I);obtain ⟨g,o,c,c0,c1,c2,-,lb,lg,-,hn,hc,b4,k0,k1,k2,-⟩:=a8.out.open';have ci:(0:Int)<(l.length:Int):=by omega
   clear aA I U J B O HO;go_wp2;go_meet;exact ⟨rfl,a8,bB,bm,bk⟩
 obtain ⟨rfl,J,B,U,O⟩:=hcut;obtain ⟨w1,rfl⟩:∃ y:World,y=wc:=⟨_,rfl⟩
 clear hA HO;have hT:=fX [45] w1 O.out.fine J.out;have HV:Hid (∀ v l' x',Rl (bi (x.isNone&&aG [45] l)) (if x.isNone&&aG [45] l then l.tail else l) x v l' x'→Rl bN l x ⟨[],v⟩ l' x'):=zx (fun v l' x' hq=>xY HA.out (ui hq));obtain ⟨mn,c7⟩:∃ mn,(x.isNone&&aG [45] l)=mn:=⟨_,rfl⟩
 rw[c7] at hT HV;obtain ⟨q,hq⟩:∃ q,(if mn then l.tail else l)=q:=⟨_,rfl⟩
 rw[hq] at hT HV;have ct:Hid (q.length≤l.length):=zx (by rw[←hq];split<;>first|omega|(rw[zL];omega));have HT:=zx hT;clear hT c7 hq HA;go_wp2_with fail
 refine HT.out.mono ?_;rintro ev w2 ⟨rfl,hp,I⟩;have a7:=zx (bG J.out I B.out (by decide));have b6:=zx (U.out.trans I);have dB:=zx (O.out.one bn I);have bb:=zx hp;clear J B U O HT hp I;obtain ⟨kd,bA⟩:∃ kd,(ax q).kind=kd:=⟨_,rfl⟩
 obtain ⟨tx,cq⟩:∃ tx,(ax q).text=tx:=⟨_,rfl⟩
 obtain ⟨at_,ds⟩:∃ at_,(ax q).at_=at_:=⟨_,rfl⟩
 obtain ⟨g,o,c,c0,c1,c2,-,lb,lg,-,hn,hc,b4,k0,k1,k2,dq⟩:=bb.out.open';rw[bA] at k0;rw[cq] at k1;rw[ds] at k2;have ci:(0:Int)<(q.length:Int):=by omega
 have a3:=zx bA;have bj:=zx cq;have cg:=zx dq;have bd:=(zO w2 177 #[zW zX kd,zQ (bs tx),zW zX at_]).alloc (zU #[zW zX 0,zW zX 0,zQ ⟨#[]⟩] 27);have a2:=zO (w2.alloc (zU #[zW zX kd,zQ (bs tx),zW zX at_] 177)) 27 #[zW zX 0,zW zX 0,zQ ⟨#[]⟩];rw[gh] at a2;have b0:aa [] w2 ((w2.alloc (zU #[zW zX kd,zQ (bs tx),zW zX at_] 177)).alloc (zU #[zW zX 0,zW zX 0,zQ ⟨#[]⟩] 27)):=((zN _ _).alloc _).alloc _;have HP3':=zx (bb.out.keep b0);have HB3':=zx (a7.out.keep b0 (by simp));have HK3':=zx (b6.out.trans b0.of_nil);have HE3':=zx (dB.out.quiet b0);obtain ⟨T,hT⟩:∃ T,w2.heap.size=T:=⟨_,rfl⟩
 have D:Hid (M≠T∧M≠T+1∧b≠T+1∧w.heap.size≤T+1):=zx (by have:=a7.out.lt;have:=bb.out.lt;have:=b6.out.size;omega);have Z:Hid (lo≤T+1):=zx (by have:=bb.out.lt;omega);go_upto_block 0 with (fail)
 rw[hT] at bd a2;try rw[hT]
 obtain ⟨y,hy⟩:∃ y,((w2.alloc (zU #[zW zX kd,zQ (bs tx),zW zX at_] 177)).alloc (zU #[zW zX 0,zW zX 0,zQ ⟨#[]⟩] 27))=y:=⟨_,rfl⟩
 rw[hy] at bd a2 HP3' HB3' HK3' HE3' ⊢;have bo:=zx bd;have A:=zx a2;have J:=HP3';have B:=HB3';have U:=HK3';have O:=HE3';have t0:y.cell? ⟨T,0,none⟩=some (zW zX kd):=bd.cell 0;have t1:y.cell? ⟨T,1,none⟩=some (zQ (bs tx)):=bd.cell 1;have lt:=bd.lt;have v0:y.cell? ⟨T+1,0,none⟩=some (zW zX 0):=a2.cell 0;have v1:y.cell? ⟨T+1,1,none⟩=some (zW zX 0):=a2.cell 1;have v2:y.cell? ⟨T+1,2,none⟩=some (zQ ⟨#[]⟩):=a2.cell 2;have g0:=a2.frozen 0;have g1:=a2.frozen 1;have g2:=a2.frozen 2;have lv:=a2.lt;clear HP3' HB3' HK3' HE3' bb a7 b6 dB hy hT b0 bd a2 bA cq ds dq c0 c1 c2 lb lg hn hc b4 k0 k1 k2 ci;go_cut [] (fun wx=>∃ (v:Vl) (x2:Option (Int×Int)),Hid (aE wx b q x2)∧Hid (ap wx (T+1) 27 #[zW zX v.kind,zW zX v.num,zQ (bs v.word)])∧Hid (ap wx M 57 #[zQ ⟨#[]⟩,zW zX 0,zW zX 0,zQ ⟨#[]⟩])∧Hid (aa [b] w wx)∧Hid (RB wx lo)∧Hid (v.word.length≤1000000)∧Hid (Rl (bi mn) q x v (mD (eo x2 v q) q) (eo x2 v q))∧Hid (x2=none→(ax q).kind≠5))
 case first =>
  by_cases bq:kd=2
  ·subst bq
   have a9:tx.length≤1000000:=by have:=cg.out.1.1.1;rw[bj.out] at this;exact this
   have cu:∀ c∈tx,dk c=true:=by have:=cg.out.1.1.2.1 a3.out;rw[bj.out] at this;exact this
   have bl:Hid (x=none→(ax q).kind≠5):=zx (fun _=>by rw[a3.out];decide);rcases ha:Lib.atoiAll tx with n|_|_
   ·have b3:=eY ha cu
    have d8:=b3.1;have d7:=b3.2;have a6:=zx (fun W hW=>eZ ha a9 W hW);have a1:Hid (Rl (bi mn) q x ⟨1,if mn then -n else n,[]⟩ (mD (eo x ⟨1,if mn then -n else n,[]⟩ q) q) (eo x ⟨1,if mn then -n else n,[]⟩ q)):=zx (ul (fun _=>vx a3.out (by rw[bj.out];exact ha)));clear ha b3 cu a9;go_wp2_with fail
    refine (a6.out y O.out.fb.env).mono ?_;rintro ev w3 ⟨rfl,I⟩;clear t0 t1 lt bo a6;clear v0 v1 v2 g0 g1 g2 lv;have HP':=zx (J.out.keep I);have HB':=zx (B.out.keep I (by simp));have HVB':=zx (A.out.keep I (by simp));have HK':=zx (U.out.trans I.of_nil);have HE':=zx (O.out.quiet I);clear J B A U O I;have J:=HP';have B:=HB';have A:=HVB';have U:=HK';have O:=HE';clear HP' HB' HVB' HK' HE';have v0:w3.cell? ⟨T+1,0,none⟩=some (zW zX (0)):=A.out.cell 0;have v1:w3.cell? ⟨T+1,1,none⟩=some (zW zX (0)):=A.out.cell 1;have v2:w3.cell? ⟨T+1,2,none⟩=some (.string (⟨#[]⟩)):=A.out.cell 2;have g0:=A.out.frozen 0;have g1:=A.out.frozen 1;have g2:=A.out.frozen 2;have lv:=A.out.lt
    cases mn with
    | false =>
     go_wp2;go_meet;refine ⟨⟨1,n,[]⟩,x,zx (bI J.out A.out B.out D.out.2.1 U.out D.out.2.2.2 O.out Z.out _ _ _).1,zx (bI J.out A.out B.out D.out.2.1 U.out D.out.2.2.2 O.out Z.out _ _ _).2.1,zx (bI J.out A.out B.out D.out.2.1 U.out D.out.2.2.2 O.out Z.out _ _ _).2.2.1,zx (bI J.out A.out B.out D.out.2.1 U.out D.out.2.2.2 O.out Z.out _ _ _).2.2.2.1,zx (bI J.out A.out B.out D.out.2.1 U.out D.out.2.2.2 O.out Z.out _ _ _).2.2.2.2,zx (zE _),a1,bl⟩
    | true =>
     go_wp2;go_meet;refine ⟨⟨1,-n,[]⟩,x,zx (bI J.out A.out B.out D.out.2.1 U.out D.out.2.2.2 O.out Z.out _ _ _).1,zx (bI J.out A.out B.out D.out.2.1 U.out D.out.2.2.2 O.out Z.out _ _ _).2.1,zx (bI J.out A.out B.out D.out.2.1 U.out D.out.2.2.2 O.out Z.out _ _ _).2.2.1,zx (bI J.out A.out B.out D.out.2.1 U.out D.out.2.2.2 O.out Z.out _ _ _).2.2.2.1,zx (bI J.out A.out B.out D.out.2.1 U.out D.out.2.2.2 O.out Z.out _ _ _).2.2.2.2,zx (zE _),a1,bl⟩
   all_goals
    have a6:=zx (fun W hW=>eQ (s:=tx) (fun n h=>by rw[ha] at h;cases h) a9 W hW);have a1:Hid (∀ v,Rl (bi mn) q x v (mD (eo (cr x 4 q) v q) q) (eo (cr x 4 q) v q)):=zx (fun v=>rz (fun _=>vy a3.out (by rw[bj.out,ha];intro n h;cases h)));clear ha cu a9;go_wp2_with fail
    refine (a6.out y O.out.fb.env).mono ?_;rintro ev w3 ⟨⟨n0,et,ep,rfl⟩,I⟩;clear t0 t1 lt bo a6;clear v0 v1 v2 g0 g1 g2 lv;have HP':=zx (J.out.keep I);have HB':=zx (B.out.keep I (by simp));have HVB':=zx (A.out.keep I (by simp));have HK':=zx (U.out.trans I.of_nil);have HE':=zx (O.out.quiet I);clear J B A U O I;have J:=HP';have B:=HB';have A:=HVB';have U:=HK';have O:=HE';clear HP' HB' HVB' HK' HE';go_wp2_with fail
    refine (aY 4 (by decide) w3 O.out.fine J.out).mono ?_;rintro ev w4 ⟨rfl,hp,I⟩;have HB':=zx (bG J.out I B.out (by decide));have HVB':=zx (bG J.out I A.out (by decide));have HK':=zx (U.out.trans I);have HE':=zx (O.out.one bn I);have HP':=zx hp;clear J B A U O I hp;have J:=HP';have B:=HB';have A:=HVB';have U:=HK';have O:=HE';clear HP' HB' HVB' HK' HE';have v0:w4.cell? ⟨T+1,0,none⟩=some (zW zX (0)):=A.out.cell 0;have v1:w4.cell? ⟨T+1,1,none⟩=some (zW zX (0)):=A.out.cell 1;have v2:w4.cell? ⟨T+1,2,none⟩=some (.string (⟨#[]⟩)):=A.out.cell 2;have g0:=A.out.frozen 0;have g1:=A.out.frozen 1;have g2:=A.out.frozen 2;have lv:=A.out.lt
    cases mn with
    | false =>
     go_wp2;go_meet;refine ⟨⟨1,_,[]⟩,cr x 4 q,zx (bI J.out A.out B.out D.out.2.1 U.out D.out.2.2.2 O.out Z.out _ _ _).1,zx (bI J.out A.out B.out D.out.2.1 U.out D.out.2.2.2 O.out Z.out _ _ _).2.1,zx (bI J.out A.out B.out D.out.2.1 U.out D.out.2.2.2 O.out Z.out _ _ _).2.2.1,zx (bI J.out A.out B.out D.out.2.1 U.out D.out.2.2.2 O.out Z.out _ _ _).2.2.2.1,zx (bI J.out A.out B.out D.out.2.1 U.out D.out.2.2.2 O.out Z.out _ _ _).2.2.2.2,zx (zE _),zx (a1.out _),zx kB⟩
    | true =>
     go_wp2;go_meet;refine ⟨⟨1,_,[]⟩,cr x 4 q,zx (bI J.out A.out B.out D.out.2.1 U.out D.out.2.2.2 O.out Z.out _ _ _).1,zx (bI J.out A.out B.out D.out.2.1 U.out D.out.2.2.2 O.out Z.out _ _ _).2.1,zx (bI J.out A.out B.out D.out.2.1 U.out D.out.2.2.2 O.out Z.out _ _ _).2.2.1,zx (bI J.out A.out B.out D.out.2.1 U.out D.out.2.2.2 O.out Z.out _ _ _).2.2.2.1,zx (bI J.out A.out B.out D.out.2.1 U.out D.out.2.2.2 O.out Z.out _ _ _).2.2.2.2,zx (zE _),zx (a1.out _),zx kB⟩
  have e2:(kd==2)=false:=by rw[beq_eq_false_iff_ne];exact bq
  by_cases b7:kd=3∧mn=false
  ·obtain ⟨rfl,rfl⟩:=b7
   clear bq e2;have a9:tx.length≤1000000:=by have:=cg.out.1.1.1;rw[bj.out] at this;exact this
   have cv:=um (s:=tx) (by have:=cg.out.2.1 a3.out;rw[bj.out] at this;exact this);have bl:Hid (x=none→(ax q).kind≠5):=zx (fun _=>by rw[a3.out];decide);have a1:Hid (Rl (bi false) q x ⟨2,0,Lib.trimB tx 39⟩ (mD (eo x ⟨2,0,Lib.trimB tx 39⟩ q) q) (eo x ⟨2,0,Lib.trimB tx 39⟩ q)):=zx (ul (fun _=>by rw[ug a3.out,bj.out,cv.1]));have c3:Hid ((Lib.trimB tx 39).length≤1000000):=zx (zA cv.2 a9);have a6:=zx (uk tx a9 y);clear a9 cv;obtain ⟨u,hu⟩:∃ u,Lib.trimB tx 39=u:=⟨_,rfl⟩
   rw[hu] at a1 c3 a6;clear hu;go_wp2_with fail
   refine a6.out.mono ?_;rintro ev w3 ⟨rfl,I⟩;clear t0 t1 lt bo a6;clear v0 v1 v2 g0 g1 g2 lv;have HP':=zx (J.out.keep I);have HB':=zx (B.out.keep I (by simp));have HVB':=zx (A.out.keep I (by simp));have HK':=zx (U.out.trans I.of_nil);have HE':=zx (O.out.quiet I);clear J B A U O I;have J:=HP';have B:=HB';have A:=HVB';have U:=HK';have O:=HE';clear HP' HB' HVB' HK' HE';have v0:w3.cell? ⟨T+1,0,none⟩=some (zW zX (0)):=A.out.cell 0;have v1:w3.cell? ⟨T+1,1,none⟩=some (zW zX (0)):=A.out.cell 1;have v2:w3.cell? ⟨T+1,2,none⟩=some (.string (⟨#[]⟩)):=A.out.cell 2;have g0:=A.out.frozen 0;have g1:=A.out.frozen 1;have g2:=A.out.frozen 2;have lv:=A.out.lt;go_wp2;go_meet;refine ⟨⟨2,0,u⟩,x,zx (bI J.out A.out B.out D.out.2.1 U.out D.out.2.2.2 O.out Z.out _ _ _).1,zx (bI J.out A.out B.out D.out.2.1 U.out D.out.2.2.2 O.out Z.out _ _ _).2.1,zx (bI J.out A.out B.out D.out.2.1 U.out D.out.2.2.2 O.out Z.out _ _ _).2.2.1,zx (bI J.out A.out B.out D.out.2.1 U.out D.out.2.2.2 O.out Z.out _ _ _).2.2.2.1,zx (bI J.out A.out B.out D.out.2.1 U.out D.out.2.2.2 O.out Z.out _ _ _).2.2.2.2,zx (c3.out),a1,bl⟩
  have a1:Hid (∀ v,Rl (bi mn) q x v (mD (eo (cr x 3 q) v q) q) (eo (cr x 3 q) v q)):=zx (fun v=>rz (fun _=>uh (by rw[a3.out];exact bq) (by
   rw[a3.out];intro h3
   cases mn with
   | true=>rfl
   | false=>exact absurd ⟨h3,rfl⟩ b7)))
  by_cases h3:kd=3
  ·have hm:mn=true:=by
    cases mn with
    | true=>rfl
    | false=>exact absurd ⟨h3,rfl⟩ b7
   subst h3 hm;clear bq b7 e2;go_wp2_with fail
   refine (aY 3 (by decide) y O.out.fine J.out).mono ?_;rintro ev w4 ⟨rfl,hp,I⟩;clear t0 t1 lt bo;clear v0 v1 v2 g0 g1 g2 lv;have HB':=zx (bG J.out I B.out (by decide));have HVB':=zx (bG J.out I A.out (by decide));have HK':=zx (U.out.trans I);have HE':=zx (O.out.one bn I);have HP':=zx hp;clear J B A U O I hp;have J:=HP';have B:=HB';have A:=HVB';have U:=HK';have O:=HE';clear HP' HB' HVB' HK' HE';go_wp2;go_meet;exact ⟨zV,cr x 3 q,J,A,B,U,O,zx (zE _),zx (a1.out _),zx kB⟩
  have e3:(kd==3)=false:=by rw[beq_eq_false_iff_ne];exact h3
  clear bq b7 h3;go_wp2_with fail
  refine (aY 3 (by decide) y O.out.fine J.out).mono ?_;rintro ev w4 ⟨rfl,hp,I⟩;clear t0 t1 lt bo;clear v0 v1 v2 g0 g1 g2 lv;have HB':=zx (bG J.out I B.out (by decide));have HVB':=zx (bG J.out I A.out (by decide));have HK':=zx (U.out.trans I);have HE':=zx (O.out.one bn I);have HP':=zx hp;clear J B A U O I hp;have J:=HP';have B:=HB';have A:=HVB';have U:=HK';have O:=HE';clear HP' HB' HVB' HK' HE';go_wp2;go_meet;exact ⟨zV,cr x 3 q,J,A,B,U,O,zx (zE _),zx (a1.out _),zx kB⟩
 obtain ⟨⟨kv,nv,wv⟩,x2,J,A,B,U,O,HW,a1,d2⟩:=hcut;obtain ⟨w5,rfl⟩:∃ y:World,y=wc:=⟨_,rfl⟩
 clear t0 t1 lt v0 v1 v2 g0 g1 g2 lv bo;have v0:w5.cell? ⟨T+1,0,none⟩=some (zW zX (kv)):=A.out.cell 0;have v1:w5.cell? ⟨T+1,1,none⟩=some (zW zX (nv)):=A.out.cell 1;have v2:w5.cell? ⟨T+1,2,none⟩=some (zQ (bs wv)):=A.out.cell 2;have g0:=A.out.frozen 0;have g1:=A.out.frozen 1;have g2:=A.out.frozen 2;have lv:=A.out.lt;obtain ⟨rv,co⟩:∃ rv,mf (⟨kv,nv,wv⟩:Vl)=rv:=⟨_,rfl⟩
 have c9:Hid (Calls zy 9 #[.agg #[zW zX kv,zW zX nv,zQ (bs wv)]] w5 fun e w'=>e=zT (.bool rv)∧aa [] w5 w'):=zx (by have:=gF (⟨kv,nv,wv⟩:Vl) (zA HW.out (by decide)) w5;rw[co] at this;exact this);have a5:eo x2 ⟨kv,nv,wv⟩ q=if rv then x2 else cr x2 4 q:=by unfold eo;rw[co]
 have cf:=zx a5;clear co a5
 cases rv with
 | false =>
  go_wp2_with fail
  refine c9.out.mono ?_;rintro ev w6 ⟨rfl,I⟩;clear v0 v1 v2 g0 g1 g2 lv;have HP':=zx (J.out.keep I);have HB':=zx (B.out.keep I (by simp));have HVB':=zx (A.out.keep I (by simp));have HK':=zx (U.out.trans I.of_nil);have HE':=zx (O.out.quiet I);clear J B A U O I;have J:=HP';have B:=HB';have A:=HVB';have U:=HK';have O:=HE';clear HP' HB' HVB' HK' HE';go_wp2_with fail
  refine (aY 4 (by decide) w6 O.out.fine J.out).mono ?_;rintro ev w7 ⟨rfl,hp,I⟩;have HB':=zx (bG J.out I B.out (by decide));have HVB':=zx (bG J.out I A.out (by decide));have HK':=zx (U.out.trans I);have HE':=zx (O.out.one bn I);have HP':=zx hp;clear J B A U O I hp;have J:=HP';have B:=HB';have A:=HVB';have U:=HK';have O:=HE';clear HP' HB' HVB' HK' HE';obtain ⟨z,hz⟩:=ry x2 4 q;have a5:eo x2 ⟨kv,nv,wv⟩ q=some z:=by rw[←hz];simpa using cf.out
  have ba:Hid (Rl bN l x ⟨[],⟨kv,nv,wv⟩⟩ q (some z)):=zx (by
   have:=HV.out _ _ _ a1.out;rw[a5] at this;exact this)
  rw[hz] at J;clear hz a5 cf;have HO:=zx (aN w7 O.out.fine J.out);go_wp2_with fail
  refine HO.out.mono ?_;rintro ev w8 ⟨aA,I⟩;have hev':ev=zT (.bool false):=aA;subst hev';clear aA HO;have HP':=zx (J.out.keep I);have HB':=zx (B.out.keep I (by simp));have HVB':=zx (A.out.keep I (by simp));have HK':=zx (U.out.trans I.of_nil);have HE':=zx (O.out.quiet I);clear J B A U O I;have J:=HP';have B:=HB';have A:=HVB';have U:=HK';have O:=HE';clear HP' HB' HVB' HK' HE';have v0:w8.cell? ⟨T+1,0,none⟩=some (zW zX (kv)):=A.out.cell 0;have v1:w8.cell? ⟨T+1,1,none⟩=some (zW zX (nv)):=A.out.cell 1;have v2:w8.cell? ⟨T+1,2,none⟩=some (zQ (bs wv)):=A.out.cell 2;have g0:=A.out.frozen 0;have g1:=A.out.frozen 1;have g2:=A.out.frozen 2;have lv:=A.out.lt;have f0:=B.out.frozen 0;have f1:=B.out.frozen 1;have f2:=B.out.frozen 2;have f3:=B.out.frozen 3;have r0:w8.cell? ⟨M,0,none⟩=some (zQ ⟨#[]⟩):=B.out.cell 0;have r1:w8.cell? ⟨M,1,none⟩=some (zW zX 0):=B.out.cell 1;have r2:w8.cell? ⟨M,2,none⟩=some (zW zX 0):=B.out.cell 2;have r3:w8.cell? ⟨M,3,none⟩=some (zQ ⟨#[]⟩):=B.out.cell 3;have lr:=B.out.lt;have dv:=D.out.2.1;go_wp2;have ad:=((((B.out).set 0 (zQ ⟨#[]⟩)).set 1 (zW zX kv)).set 2 (zW zX nv)).set 3 (zQ (bs wv));have z0:=ad.cell 0;have z1:=ad.cell 1;have z2:=ad.cell 2;have z3:=ad.cell 3;refine bodyPost_ret (v:= .agg #[zQ ⟨#[]⟩,zW zX kv,zW zX nv,zQ (bs wv)]) (by simp[results,Tryz.results198,go_sem,z0,z1,z2,z3]) rfl ?_;exact ⟨⟨[],⟨kv,nv,wv⟩⟩,q,some z,rfl,(((J.out.set B.out (by decide) (by decide) _).set ((B.out).set 0 _) (by decide) (by decide) _).set (((B.out).set 0 _).set 1 _) (by decide) (by decide) _).set ((((B.out).set 0 _).set 1 _).set 2 _) (by decide) (by decide) _,ba.out,ct.out,(((U.out.setCell (.inr a0.out) _).setCell (.inr a0.out) _).setCell (.inr a0.out) _).setCell (.inr a0.out) _⟩
 | true =>
  go_wp2_with fail
  refine c9.out.mono ?_;rintro ev w6 ⟨rfl,I⟩;clear v0 v1 v2 g0 g1 g2 lv;have HP':=zx (J.out.keep I);have HB':=zx (B.out.keep I (by simp));have HVB':=zx (A.out.keep I (by simp));have HK':=zx (U.out.trans I.of_nil);have HE':=zx (O.out.quiet I);clear J B A U O I;have J:=HP';have B:=HB';have A:=HVB';have U:=HK';have O:=HE';clear HP' HB' HVB' HK' HE';have a5:eo x2 ⟨kv,nv,wv⟩ q=x2:=by simpa using cf.out
  have HO:=zx (aN w6 O.out.fine J.out)
  cases x2 with
  | some z =>
   have ba:Hid (Rl bN l x ⟨[],⟨kv,nv,wv⟩⟩ q (some z)):=zx (by
    have:=HV.out _ _ _ a1.out;rw[a5] at this;exact this)
   clear a5 cf;go_wp2_with fail
   refine HO.out.mono ?_;rintro ev w8 ⟨aA,I⟩;have hev':ev=zT (.bool false):=aA;subst hev';clear aA HO;have HP':=zx (J.out.keep I);have HB':=zx (B.out.keep I (by simp));have HVB':=zx (A.out.keep I (by simp));have HK':=zx (U.out.trans I.of_nil);have HE':=zx (O.out.quiet I);clear J B A U O I;have J:=HP';have B:=HB';have A:=HVB';have U:=HK';have O:=HE';clear HP' HB' HVB' HK' HE';have v0:w8.cell? ⟨T+1,0,none⟩=some (zW zX (kv)):=A.out.cell 0;have v1:w8.cell? ⟨T+1,1,none⟩=some (zW zX (nv)):=A.out.cell 1;have v2:w8.cell? ⟨T+1,2,none⟩=some (zQ (bs wv)):=A.out.cell 2;have g0:=A.out.frozen 0;have g1:=A.out.frozen 1;have g2:=A.out.frozen 2;have lv:=A.out.lt;have f0:=B.out.frozen 0;have f1:=B.out.frozen 1;have f2:=B.out.frozen 2;have f3:=B.out.frozen 3;have r0:w8.cell? ⟨M,0,none⟩=some (zQ ⟨#[]⟩):=B.out.cell 0;have r1:w8.cell? ⟨M,1,none⟩=some (zW zX 0):=B.out.cell 1;have r2:w8.cell? ⟨M,2,none⟩=some (zW zX 0):=B.out.cell 2;have r3:w8.cell? ⟨M,3,none⟩=some (zQ ⟨#[]⟩):=B.out.cell 3;have lr:=B.out.lt;have dv:=D.out.2.1;go_wp2;have ad:=((((B.out).set 0 (zQ ⟨#[]⟩)).set 1 (zW zX kv)).set 2 (zW zX nv)).set 3 (zQ (bs wv));have z0:=ad.cell 0;have z1:=ad.cell 1;have z2:=ad.cell 2;have z3:=ad.cell 3;refine bodyPost_ret (v:= .agg #[zQ ⟨#[]⟩,zW zX kv,zW zX nv,zQ (bs wv)]) (by simp[results,Tryz.results198,go_sem,z0,z1,z2,z3]) rfl ?_;exact ⟨⟨[],⟨kv,nv,wv⟩⟩,q,some z,rfl,(((J.out.set B.out (by decide) (by decide) _).set ((B.out).set 0 _) (by decide) (by decide) _).set (((B.out).set 0 _).set 1 _) (by decide) (by decide) _).set ((((B.out).set 0 _).set 1 _).set 2 _) (by decide) (by decide) _,ba.out,ct.out,(((U.out.setCell (.inr a0.out) _).setCell (.inr a0.out) _).setCell (.inr a0.out) _).setCell (.inr a0.out) _⟩
  | none =>
   have ba:Hid (Rl bN l x ⟨[],⟨kv,nv,wv⟩⟩ q.tail none):=zx (by
    have:=HV.out _ _ _ a1.out;rw[a5] at this;exact this)
   clear a5 cf;have c6:=zx (d2.out rfl);go_wp2_with fail
   refine HO.out.mono ?_;rintro ev w8 ⟨aA,I⟩;have hev':ev=zT (.bool true):=aA;subst hev';clear aA HO;have HP':=zx (J.out.keep I);have HB':=zx (B.out.keep I (by simp));have HVB':=zx (A.out.keep I (by simp));have HK':=zx (U.out.trans I.of_nil);have HE':=zx (O.out.quiet I);clear J B A U O I;have J:=HP';have B:=HB';have A:=HVB';have U:=HK';have O:=HE';clear HP' HB' HVB' HK' HE';have v0:w8.cell? ⟨T+1,0,none⟩=some (zW zX (kv)):=A.out.cell 0;have v1:w8.cell? ⟨T+1,1,none⟩=some (zW zX (nv)):=A.out.cell 1;have v2:w8.cell? ⟨T+1,2,none⟩=some (zQ (bs wv)):=A.out.cell 2;have g0:=A.out.frozen 0;have g1:=A.out.frozen 1;have g2:=A.out.frozen 2;have lv:=A.out.lt;have f0:=B.out.frozen 0;have f1:=B.out.frozen 1;have f2:=B.out.frozen 2;have f3:=B.out.frozen 3;have r0:w8.cell? ⟨M,0,none⟩=some (zQ ⟨#[]⟩):=B.out.cell 0;have r1:w8.cell? ⟨M,1,none⟩=some (zW zX 0):=B.out.cell 1;have r2:w8.cell? ⟨M,2,none⟩=some (zW zX 0):=B.out.cell 2;have r3:w8.cell? ⟨M,3,none⟩=some (zQ ⟨#[]⟩):=B.out.cell 3;have lr:=B.out.lt;have dv:=D.out.2.1;obtain ⟨g,o,c,c0,c1,c2,⟨z0,-⟩,lb,lg,-,hn,hc,b4,-⟩:=J.out.open';have hmore:1<q.length:=by have:=(J.out.endT.tail c6.out).pos;rw[zL] at this;omega
   have h3:(1:Int)≤(q.length:Int):=by omega
   have h4:(1:Int)<(c:Int):=by omega
   have d0:=zx (fun n a d=> @aE.step w8 b q none g o c J.out c0 c6.out n a d);have eb:=c4.out;have d6:=D.out.2.2.1;have d1:Hid (q.tail.length≤l.length):=zx (by have:=ct.out;rw[zL];omega);go_wp2;have c5:=d0.out (q.length-1) ⟨g,o+3,none⟩ (c-1) rfl rfl rfl;have b5:=B.out.far (p:=⟨b,0,none⟩) c4.out (zR (some ⟨g,o+3,none⟩) (q.length-1) (c-1));have ad:=((((b5).set 0 (zQ ⟨#[]⟩)).set 1 (zW zX kv)).set 2 (zW zX nv)).set 3 (zQ (bs wv));have z0:=ad.cell 0;have z1:=ad.cell 1;have z2:=ad.cell 2;have z3:=ad.cell 3;refine bodyPost_ret (v:= .agg #[zQ ⟨#[]⟩,zW zX kv,zW zX nv,zQ (bs wv)]) (by simp[results,Tryz.results198,go_sem,z0,z1,z2,z3]) rfl ?_;exact ⟨⟨[],⟨kv,nv,wv⟩⟩,q.tail,none,rfl,(((c5.1.set b5 (by decide) (by decide) _).set ((b5).set 0 _) (by decide) (by decide) _).set (((b5).set 0 _).set 1 _) (by decide) (by decide) _).set ((((b5).set 0 _).set 1 _).set 2 _) (by decide) (by decide) _,ba.out,d1.out,((((U.out.trans c5.2).setCell (.inr a0.out) _).setCell (.inr a0.out) _).setCell (.inr a0.out) _).setCell (.inr a0.out) _⟩
theorem Rl.must {α:Type} {s:Bs} {S:List Tk→Except (Int×Int) (α×List Tk)} {l A B:List Tk} {x D I:Option (Int×Int)} {c:α} (h:Rl (eD s) l x () A D) (k:Rl S A D c B I):Rl (fun r=>aq s r >>= S) l x c B I:=by
 have e:(fun r=>aq s r >>= S)=fun r=>eD s r >>= fun p=>(fun (_:Unit) r=>S r) p.1 p.2:=by
  funext r
  unfold eD;rcases aq s r with z|q<;>rfl
 rw[e];exact Rl.bind (Q:=fun _ r=>S r) h k
theorem Rl.congr {α:Type} {P S:List Tk→Except (Int×Int) (α×List Tk)} {l B:List Tk} {x A:Option (Int×Int)} {a:α} (h:P l=S l) (k:Rl S l x a B A):Rl P l x a B A:=by
 cases A with
 | none=>exact ⟨k.1,h.trans k.2⟩
 | some y =>
  cases x with
  | none =>
   have:S l= .error y:=k;exact h.trans this
  | some z=>exact k
theorem cI {s:Bs} {l D:List Tk} {B:Option (Int×Int)} (h:Rl (eD s) l none () D B) (I:aG s l=true):D=l.tail∧B=none:=by
 have e:eD s l= .ok ((),l.tail):=by
  unfold eD aq;rw[if_pos I];rfl
 cases B with
 | none =>
  have A:=h.2;rw[e] at A;injection A with A;injection A with _ A;exact ⟨A.symm,rfl⟩
 | some y =>
  have A:eD s l= .error y:=h;rw[e] at A;cases A
theorem vz {ws:List Bs} {l J:List Tk} {s:Bs} {x:Option (Int×Int)} (h:Rl (bC ws) l x s J none):s∈ws:=by
 obtain ⟨_,M,_,e,_⟩:=iZ h.2;have A:=h.2;unfold bC at A;split at A
 ·cases A
 rename_i k I;injection A with A;injection A with A _;rw[←A];have:k<ws.length:=by
  have B:∀ (ws:List Bs) (k:Nat),dm l ws=some k→k<ws.length:=by
   intro ws
   induction ws with
   | nil=>intro k h;cases h
   | cons a ws ih =>
    intro k h;unfold dm at h;split at h
    ·injection h with h;subst h;simp
    cases D:dm l ws with
    | none=>rw[D] at h;cases h
    | some j =>
     rw[D] at h;injection h with h;subst h;have:=ih j D;simp;omega
  exact B ws k I
 rw[zM,zI this];exact zH this
theorem qw {β:Type} (n:Nat) (r:List Tk) (h:List Cl) (F:List Cl×List Tk→Except (Int×Int) (β×List Tk)):(b8 (n+1) r h >>= F)=(aj r >>= fun p=>bC [[105,110,116],[116,101,120,116]] p.2 >>= fun k=>(if aG [44] k.2 then b8 n k.2.tail (h++[⟨p.1,if k.1=[116,101,120,116] then 2 else 1⟩]) else .ok (h++[⟨p.1,if k.1=[116,101,120,116] then 2 else 1⟩],k.2)) >>= F):=by
 rw[dP];rcases aj r with x|⟨s,r⟩
 ·rfl
 rw[au,au];simp only;rcases bC [[105,110,116],[116,101,120,116]] r with x|⟨k,A⟩
 ·rfl
 rfl
def mF (at_:Int) (nm:Bs) (cs:List Cl):List Tk→Except (Int×Int) (In×List Tk):=fun r=>aq [59] r >>= fun r=> .ok (⟨at_,nm,cs⟩,r)
def yI (at_:Int) (nm:Bs):List Tk→Except (Int×Int) (In×List Tk):=fun r=>b8 r.length r [] >>= fun p=>mF at_ nm p.1 p.2
def xZ (at_:Int) (nm:Bs):List Tk→Except (Int×Int) (In×List Tk):=fun r=>aq [58] r >>= yI at_ nm
def yJ (at_:Int):List Tk→Except (Int×Int) (In×List Tk):=fun r=>aj r >>= fun p=>xZ at_ p.1 p.2
def sv (at_:Int) (nm:Bs) (n:Nat) (h:List Cl) (s k:Bs):List Tk→Except (Int×Int) (In×List Tk):=fun r=>(if aG [44] r then b8 n r.tail (h++[⟨s,if k=[116,101,120,116] then 2 else 1⟩]) else .ok (h++[⟨s,if k=[116,101,120,116] then 2 else 1⟩],r)) >>= fun p=>mF at_ nm p.1 p.2
def ya (at_:Int) (nm:Bs) (n:Nat) (h:List Cl) (s:Bs):List Tk→Except (Int×Int) (In×List Tk):=fun r=>bC [[105,110,116],[116,101,120,116]] r >>= fun k=>sv at_ nm n h s k.1 k.2
def un (k:Bs):Int:=if k=[105,110,116] then 1 else 2
theorem qx {l:List Tk} {b lo:Nat} {x:Option (Int×Int)} (w:World) (hE:RB w lo) (a6:lo≤b) (h:aE w b l x) (fc:l.length≤1000000) :
  Calls zy 98 #[zS (some ⟨b,0,none⟩)] w fun e w'=>∃ i v M O,e=zT (.agg #[zW zX i.at_,zQ (bs i.name),v])∧w'.ownsRow w.heap.size 109 2 v i.cols.length (ah i.cols)∧aE w' b M O∧Rl bc l x i M O∧M.length≤l.length∧(x=none→aG [105,110] l=true→M.length<l.length)∧aa [b] w w':=by
 obtain ⟨i0,hi,f3,gs,gb⟩:=info_parts yt;have gm:=zx fc;obtain ⟨at_,d6⟩:∃ at_,(ax l).at_=at_:=⟨_,rfl⟩
 have ad:Hid (∀ i M O,Rl (fun r=>aq [105,110] r >>= yJ at_) l x i M O→Rl bc l x i M O):=zx (fun i M O hq=>Rl.congr (by rw[←d6];rfl) hq);have U:=zx (zz l.length);obtain ⟨g,o,c,c0,c1,c2,-,lb,lg,-,hn,hc,f6,k0,k1,k2,-⟩:=h.open';rw[d6] at k2;have g1:(0:Int)<(l.length:Int):=by omega
 have HW:=zx (gh w (zU #[zW zX 0,zQ ⟨#[]⟩,zR none 0 0] 173));have D:=zx ((zO w 173 #[zW zX 0,zQ ⟨#[]⟩,zR none 0 0]).alloc (zU #[zW zX at_,zQ ⟨#[]⟩,zR none 0 0] 173));have d3:=zO (w.alloc (zU #[zW zX 0,zQ ⟨#[]⟩,zR none 0 0] 173)) 173 #[zW zX at_,zQ ⟨#[]⟩,zR none 0 0];rw[gh] at d3;have B:=zx d3;have ci:=((zN [] w).alloc (zU #[zW zX 0,zQ ⟨#[]⟩,zR none 0 0] 173)).alloc (zU #[zW zX at_,zQ ⟨#[]⟩,zR none 0 0] 173);have HK:=zx (aa.of_nil (L:=[b]) ci);have cu:Hid (w.heap.size≤w.heap.size+1):=zx (by omega);have HP:=zx (h.keep ci);have HE:=zx (hE.quiet ci);have fS:=zx hE;have g0:Hid (b<w.heap.size):=zx lb;clear h d6 d3 fc hE ci;go_enter Tryz.func98,Tryz.ntmps98
 go_upto_region 2 with (fail)
 obtain ⟨w0,e9⟩:∃ x,(w.alloc (zU #[zW zX 0,zQ ⟨#[]⟩,zR none 0 0] 173)).alloc (zU #[zW zX at_,zQ ⟨#[]⟩,zR none 0 0] 173)=x:=⟨_,rfl⟩
 rw[e9] at D B HK HP HE ⊢;clear e9 HW c0 c1 c2 lb lg hn hc f6 k0 k1 k2 g1;obtain ⟨xb,hx⟩:∃ xb,w.heap.size+1=xb:=⟨_,rfl⟩
 rw[hx] at B cu ⊢;obtain ⟨rb,hr⟩:∃ rb,w.heap.size=rb:=⟨_,rfl⟩
 rw[hr] at D ⊢;have bA:Hid (rb≠xb∧w.heap.size≤rb):=zx (by omega);clear hx hr;have HC:=zx (aJ [105,110] w0 HE.out.fine (HE.out.fne a6) HP.out);go_wp2_with fail
 refine HC.out.mono ?_;rintro ev y1 ⟨rfl,⟨q1,x1,hp,hr,aA⟩,Z⟩;have g3:Hid (x=none→aG [105,110] l=true→q1.length<l.length):=zx (fun e hs=>by
  subst e;rw[(cI hr hs).1,zL];have:=HP.out.endT.pos;omega)
 have HIM':Hid (∀ i M O,Rl (yJ at_) q1 x1 i M O→Rl bc l x i M O):=zx (fun i M O hq=>ad.out i M O (Rl.must hr hq));clear ad hr;have ad:=HIM';clear HIM';have HXB':=zx (bG HP.out Z B.out (by decide));have I:=zx (bG HP.out Z D.out (by decide));have HK':=zx (HK.out.trans Z);have HE':=zx (HE.out.one a6 Z);have HP':=zx hp;clear B D HK HE HP Z hp HC;have B:=HXB';have D:=I;have HK:=HK';have HE:=HE';have HP:=HP';clear HXB' I HK' HE' HP';have a4:=zx (zA aA U.out);clear aA U;have U:=a4;clear a4;have c5:=U;clear U;have U:Hid (q1.length≤q1.length):=zx (zz _);have HC:=zx (aS y1 HE.out.fine (HE.out.fne a6) HP.out);go_wp2_with fail
 refine HC.out.mono ?_;rintro ev y2 ⟨a2,q2,x2,rfl,hp,hr,hs,aA,Z⟩;clear hs;have HIM':Hid (∀ i M O,Rl (xZ at_ a2) q2 x2 i M O→Rl bc l x i M O):=zx (fun i M O hq=>ad.out i M O (Rl.bind (Q:=fun a=>xZ at_ a) hr hq));clear ad hr;have ad:=HIM';clear HIM';have HXB':=zx (bG HP.out Z B.out (by decide));have I:=zx (bG HP.out Z D.out (by decide));have HK':=zx (HK.out.trans Z);have HE':=zx (HE.out.one a6 Z);have HP':=zx hp;clear B D HK HE HP Z hp HC;have B:=HXB';have D:=I;have HK:=HK';have HE:=HE';have HP:=HP';clear HXB' I HK' HE' HP';have a4:=zx (zA aA U.out);clear aA U;have U:=a4;clear a4;have e0:y2.cell? ⟨xb,1,none⟩=some (zQ ⟨#[]⟩):=B.out.cell 1;have e1:=B.out.frozen 1;have e2:=B.out.lt;go_upto_region 4 with (fail)
 have HP':=zx (HP.out.set (i:=1) B.out (by decide) (by decide) (zQ (bs a2)));have I:=zx (D.out.far (p:=⟨xb,1,none⟩) bA.out.1 (zQ (bs a2)));have HXB':=zx ((B.out.set 1 (zQ (bs a2))).congr (cs':= #[zW zX at_,zQ (bs a2),zR none 0 0]) rfl);have HK':=zx (HK.out.setCell (p:=⟨xb,1,none⟩) (.inr cu.out) (zQ (bs a2)));have HE':=zx (HE.out.go (L:=[xb]) ((zN [xb] _).setCell (p:=⟨xb,1,none⟩) (.inl (by simp)) (zQ (bs a2))) (fun y hy=>by rw[zD.1 hy];have:=cu.out;have:=g0.out;omega));obtain ⟨y3,fn⟩:∃ x,y2.setCell ⟨xb,1,none⟩ (zQ (bs a2))=x:=⟨_,rfl⟩
 rw[fn] at HP' I HXB' HK' HE' ⊢;clear fn e0 e1 e2 HP D B HK HE;have HP:=HP';have D:=I;have B:=HXB';have HK:=HK';have HE:=HE';clear HP' I HXB' HK' HE';have HC:=zx (aJ [58] y3 HE.out.fine (HE.out.fne a6) HP.out);go_wp2_with fail
 refine HC.out.mono ?_;rintro ev y4 ⟨rfl,⟨q4,x4,hp,hr,aA⟩,Z⟩;have HIM':Hid (∀ i M O,Rl (yI at_ a2) q4 x4 i M O→Rl bc l x i M O):=zx (fun i M O hq=>ad.out i M O (Rl.must hr hq));clear ad hr;have ad:=HIM';clear HIM';have HXB':=zx (bG HP.out Z B.out (by decide));have I:=zx (bG HP.out Z D.out (by decide));have HK':=zx (HK.out.trans Z);have HE':=zx (HE.out.one a6 Z);have HP':=zx hp;clear B D HK HE HP Z hp HC;have B:=HXB';have D:=I;have HK:=HK';have HE:=HE';have HP:=HP';clear HXB' I HK' HE' HP';have a4:=zx (zA aA U.out);clear aA U;have U:=a4;clear a4;have b1:=zx (show q4.length≤l.length from zA U.out c5.out);go_upto_region 5 with (fail)
 go_cut [4] (fun m wx=>∃ mb,m= .bool mb∧Hid (mb=true→x4=none∧q4.length≤q4.length∧([]:List Cl).length+q4.length≤l.length∧∀ i M O,Rl (fun r=>b8 q4.length r [] >>= fun p=>mF at_ a2 p.1 p.2) q4 none i M O→Rl bc l x i M O)∧Hid (mb=false→∀ i M O,Rl (mF at_ a2 []) q4 x4 i M O→Rl bc l x i M O)∧Hid (aE wx b q4 x4)∧Hid (ap wx xb 173 #[zW zX at_,zQ (bs a2),zR none 0 0])∧Hid (ap wx rb 173 #[zW zX 0,zQ ⟨#[]⟩,zR none 0 0])∧Hid (aa [b] w wx)∧Hid (RB wx lo))
 case first =>
  cases x4 with
  | some y =>
   have HD:Hid (∀ i M,Rl bc l x i M (some y)):=zx (fun i M=>ad.out i M _ rfl);clear ad;have HC:=zx (aN y4 HE.out.fine HP.out);go_wp2_with fail
   refine HC.out.mono ?_;rintro ev y5 ⟨b6,Z⟩;have hev':ev=zT (.bool false):=b6;subst hev';clear b6;have HXB':=zx (B.out.keep Z (by simp));have I:=zx (D.out.keep Z (by simp));have HK':=zx (HK.out.trans Z.of_nil);have HE':=zx (HE.out.quiet Z);have HP':=zx (HP.out.keep Z);clear B D HK HE HP Z HC;have B:=HXB';have D:=I;have HK:=HK';have HE:=HE';have HP:=HP';clear HXB' I HK' HE' HP';go_wp2;go_meet;exact ⟨false,rfl,zx (fun h=>by cases h),zx (fun _ i M O hq=>by have:=Rl.dead hq;subst this;exact HD.out i M),HP,B,D,HK,HE⟩
  | none =>
   have HC:=zx (aN y4 HE.out.fine HP.out);go_wp2_with fail
   refine HC.out.mono ?_;rintro ev y5 ⟨b6,Z⟩;have hev':ev=zT (.bool true):=b6;subst hev';clear b6;have HXB':=zx (B.out.keep Z (by simp));have I:=zx (D.out.keep Z (by simp));have HK':=zx (HK.out.trans Z.of_nil);have HE':=zx (HE.out.quiet Z);have HP':=zx (HP.out.keep Z);clear B D HK HE HP Z HC;have B:=HXB';have D:=I;have HK:=HK';have HE:=HE';have HP:=HP';clear HXB' I HK' HE' HP';go_wp2;go_meet;exact ⟨true,rfl,zx (fun _=>⟨by trivial,zz _,by simpa using b1.out,fun i M O hq=>ad.out i M O (Rl.congr rfl hq)⟩),zx (fun h=>by cases h),HP,B,D,HK,HE⟩
 obtain ⟨f5,rfl,e5,et,ek,c4,c7,e3,fu⟩:=hcut;obtain ⟨y6,rfl⟩:∃ y:World,y=wc:=⟨_,rfl⟩
 clear HP B D HK HE ad;go_wp2_with fail
 go_loopw [4] (fun m wr=>∃ (mb:Bool) (J:List Cl) (q:List Tk) (x1:Option (Int×Int)) (n:Nat) (v:Value),m= .bool mb∧Hid (mb=true→x1=none∧q.length≤n∧J.length+q.length≤l.length∧∀ i M O,Rl (fun r=>b8 n r J >>= fun p=>mF at_ a2 p.1 p.2) q none i M O→Rl bc l x i M O)∧Hid (mb=false→∀ i M O,Rl (mF at_ a2 J) q x1 i M O→Rl bc l x i M O)∧Hid (q.length≤q4.length)∧Hid (aE wr b q x1)∧Hid (ap wr xb 173 #[zW zX at_,zQ (bs a2),v])∧Hid (ap wr rb 173 #[zW zX 0,zQ ⟨#[]⟩,zR none 0 0])∧Hid (wr.ownsRow w.heap.size 109 2 v J.length (ah J))∧Hid (aa [b] w wr)∧Hid (RB wr lo)) (fun m wr=>2*fw b wr+(match m with | .bool true=>1|_=>0))
 case atStart=>exact ⟨f5,[],q4,x4,q4.length,_,rfl,e5,et,zx (zz _),ek,c4,c7,zx (World.ownsRow_nil _ _ _ _),e3,fu⟩
 clear ek c4 c7 e3 fu e5 et b1;obtain ⟨mb,J,q,x1,n,v,rfl,HG,HF,cj,HP,B,D,HO,HK,HE⟩:=hrel;obtain ⟨A,cv,rfl,-⟩:=ao HO.out;have HM:=zx HP.out.left
 cases mb with
 | false =>
  have ad:=zx (HF.out rfl);clear HF HG;have c6:=U;clear U;have U:Hid (q.length≤q.length):=zx (zz _);have HC:=zx (aJ [59] wr HE.out.fine (HE.out.fne a6) HP.out);go_wp2_with fail
  refine HC.out.mono ?_;rintro ev a3 ⟨rfl,⟨bo,b5,hp,hr,aA⟩,Z⟩;have HIM':Hid (∀ i M O,Rl (fun r=> .ok (⟨at_,a2,J⟩,r)) bo b5 i M O→Rl bc l x i M O):=zx (fun i M O hq=>ad.out i M O (Rl.must hr hq));clear ad hr;have ad:=HIM';clear HIM';have HXB':=zx (bG HP.out Z B.out (by decide));have I:=zx (bG HP.out Z D.out (by decide));have HO':=zx (fC HO.out HP.out Z (by decide));have HK':=zx (HK.out.trans Z);have HE':=zx (HE.out.one a6 Z);have HP':=zx hp;clear B D HO HK HE HP Z hp HC;have B:=HXB';have D:=I;have HO:=HO';have HK:=HK';have HE:=HE';have HP:=HP';clear HXB' I HO' HK' HE' HP';have a4:=zx (zA aA U.out);clear aA U;have U:=a4;clear a4;have e4:Hid (Rl bc l x ⟨at_,a2,J⟩ bo b5):=zx (ad.out _ _ _ (Rl.stay (fun _=>rfl)));have x0:a3.cell? ⟨xb,0,none⟩=some (zW zX at_):=B.out.cell 0;have x1':a3.cell? ⟨xb,1,none⟩=some (zQ (bs a2)):=B.out.cell 1;have x2':a3.cell? ⟨xb,2,none⟩=some (zR A J.length cv):=B.out.cell 2;have lx:=B.out.lt;have z0:a3.cell? ⟨rb,0,none⟩=some (zW zX 0):=D.out.cell 0;have z1:a3.cell? ⟨rb,1,none⟩=some (zQ ⟨#[]⟩):=D.out.cell 1;have z2:a3.cell? ⟨rb,2,none⟩=some (zR none 0 0):=D.out.cell 2;have f0:=D.out.frozen 0;have f1:=D.out.frozen 1;have f2:=D.out.frozen 2;have lr:=D.out.lt;go_wp2;have d7:=((D.out.set 0 (zW zX at_)).set 1 (zQ (bs a2))).set 2 (zR A J.length cv);have t0:=d7.cell 0;have t1:=d7.cell 1;have t2:=d7.cell 2;refine bodyPost_ret (v:= .agg #[zW zX at_,zQ (bs a2),zR A J.length cv]) (by simp[results,Tryz.results98,go_sem,t0,t1,t2]) rfl ?_;have eb:aa [rb] a3 (((a3.setCell ⟨rb,0,none⟩ (zW zX at_)).setCell ⟨rb,1,none⟩ (zQ (bs a2))).setCell ⟨rb,2,none⟩ (zR A J.length cv)):=(((zN [rb] a3).setCell (.inl (by simp)) _).setCell (.inl (by simp)) _).setCell (.inl (by simp)) _;exact ⟨⟨at_,a2,J⟩,_,bo,b5,rfl,bh HO.out eb (fun g hg hm=>by rw[zD.1 hm] at hg;exact (av HO.out rb hg).ne D.out.ty (by decide) rfl),HP.out.far eb (fun x hx=>⟨173,by rw[zD.1 hx];exact D.out.ty,by decide,by decide⟩),e4.out,zA (zA U.out cj.out) (zA c6.out c5.out),fun e1 e2=>Nat.lt_of_le_of_lt (zA (zA U.out cj.out) c6.out) (g3.out e1 e2),((HK.out.setCell (.inr bA.out.2) _).setCell (.inr bA.out.2) _).setCell (.inr bA.out.2) _⟩
 | true =>
  obtain ⟨rfl,fb,fg,es⟩:=HG.out rfl;have ep:=zx fg;have d5:=HP.out.endT.pos;obtain ⟨n,rfl⟩:∃ m,n=m+1:=⟨n-1,by omega⟩
  have ad:Hid (∀ i M O,Rl (fun r=>aj r >>= fun p=>ya at_ a2 n J p.1 p.2) q none i M O→Rl bc l x i M O):=zx (fun i M O hq=>es i M O (Rl.congr (qw n q J _) hq));have g4:Hid (q.length≤n+1):=zx fb;clear HF HG es fb d5 fg U;have U:Hid (q.length≤q.length):=zx (zz _);have HC:=zx (aS wr HE.out.fine (HE.out.fne a6) HP.out);go_wp2_with fail
  refine HC.out.mono ?_;rintro ev a3 ⟨a0,bo,b5,rfl,hp,hr,hs,aA,Z⟩;clear hs;have HIM':Hid (∀ i M O,Rl (ya at_ a2 n J a0) bo b5 i M O→Rl bc l x i M O):=zx (fun i M O hq=>ad.out i M O (Rl.bind (Q:=fun a=>ya at_ a2 n J a) hr hq));clear ad hr;have ad:=HIM';clear HIM';have HXB':=zx (bG HP.out Z B.out (by decide));have I:=zx (bG HP.out Z D.out (by decide));have HO':=zx (fC HO.out HP.out Z (by decide));have HK':=zx (HK.out.trans Z);have HE':=zx (HE.out.one a6 Z);have HP':=zx hp;clear B D HO HK HE HP Z hp HC;have B:=HXB';have D:=I;have HO:=HO';have HK:=HK';have HE:=HE';have HP:=HP';clear HXB' I HO' HK' HE' HP';have a4:=zx (zA aA U.out);clear aA U;have U:=a4;clear a4;have cq:=zO a3 109 #[zQ (bs a0),zW zX 0];have dv:aa [] a3 (a3.alloc (zU #[zQ (bs a0),zW zX 0] 109)):=(zN _ _).alloc _;have HP':=zx (HP.out.keep dv);have HXB':=zx (B.out.alloc (zU #[zQ (bs a0),zW zX 0] 109));have I:=zx (D.out.alloc (zU #[zQ (bs a0),zW zX 0] 109));have HO':=zx (HO.out.alloc (zU #[zQ (bs a0),zW zX 0] 109));have HK':=zx (HK.out.alloc (zU #[zQ (bs a0),zW zX 0] 109));have HE':=zx (HE.out.quiet dv);have bq:Hid (xb≠a3.heap.size∧rb≠a3.heap.size∧w.heap.size≤a3.heap.size∧lo≤a3.heap.size):=zx ⟨by have:=B.out.lt;omega,by have:=D.out.lt;omega,HK.out.size,by have:=HP.out.lt;omega⟩;have el:Hid (∀ g,(Value.slice A J.length cv).ownBlock=some g→g<a3.heap.size):=zx (fun g hg=>(HO.out.lt g hg).2);clear dv HP B D HO HK HE;go_upto_region 9 with (fail)
  obtain ⟨cb,c3⟩:∃ cb,a3.heap.size=cb:=⟨_,rfl⟩
  rw[c3] at cq bq el ⊢;obtain ⟨gl,hy⟩:∃ z,a3.alloc (zU #[zQ (bs a0),zW zX 0] 109)=z:=⟨_,rfl⟩
  rw[hy] at cq HP' HXB' I HO' HK' HE' ⊢;have a7:=zx cq;clear hy c3 cq;have HP:=HP';have B:=HXB';have D:=I;have HO:=HO';have HK:=HK';have HE:=HE';clear HP' HXB' I HO' HK' HE';have HC:=zx (fY [105,110,116,32,116,101,120,116] [[105,110,116],[116,101,120,116]] (by decide) (by decide) (by decide) (by decide) gl HE.out.renv (HE.out.fne a6) (HE.out.mne a6) HP.out);go_wp2_with fail
  refine HC.out.mono ?_;rintro ev bb ⟨a5,a1,a8,rfl,hp,hr,hs,aA,Z⟩;clear hs;have ds:Hid (a8=none→(if a5=[116,101,120,116] then 2 else 1:Int)=un a5):=zx (fun e=>by
   subst e;have hm:=vz hr;simp only[List.mem_cons,List.not_mem_nil,or_false] at hm;rcases hm with rfl|rfl<;>rfl)
  have g2:Hid (a8=none→a1.length+1≤bo.length):=zx (fun e=>by
   subst e;have:=dZ hr.2;have:=HP.out.endT.pos;omega)
  have HIM':Hid (∀ i M O,Rl (sv at_ a2 n J a0 a5) a1 a8 i M O→Rl bc l x i M O):=zx (fun i M O hq=>ad.out i M O (Rl.bind (Q:=fun a=>sv at_ a2 n J a0 a) hr hq));clear ad hr;have ad:=HIM';clear HIM';have HXB':=zx (bG HP.out Z B.out (by decide));have I:=zx (bG HP.out Z D.out (by decide));have HO':=zx (fC HO.out HP.out Z (by decide));have bk:=zx (bG HP.out Z a7.out (by decide));have HK':=zx (HK.out.trans Z);have HE':=zx (HE.out.one a6 Z);have HP':=zx hp;clear B D HO a7 HK HE HP Z hp HC;have B:=HXB';have D:=I;have HO:=HO';have a7:=bk;have HK:=HK';have HE:=HE';have HP:=HP';clear HXB' I HO' bk HK' HE' HP';have a4:=zx (zA aA U.out);clear aA U;have U:=a4;clear a4;have ct:Hid (∀ i M O,Rl (mF at_ a2 (J++[(⟨a0,un a5⟩:Cl)])) a1 a8 i M O→(a8=none→aG [44] a1=false)→Rl bc l x i M O):=zx (fun i M O hq hs=>ad.out i M O (by
   cases a8 with
   | some y=>have:=Rl.dead hq;subst this;exact rfl
   | none=>exact Rl.congr (by unfold sv;rw[hs rfl,ds.out rfl];rfl) hq))
  have cp:Hid (a8=none→aG [44] a1=true→∀ i M O,Rl (fun r=>b8 n r (J++[(⟨a0,un a5⟩:Cl)]) >>= fun p=>mF at_ a2 p.1 p.2) a1.tail none i M O→Rl bc l x i M O):=zx (fun e hs i M O hq=>ad.out i M O (by
   subst e;have he:sv at_ a2 n J a0 a5 a1=(fun r=>b8 n r (J++[(⟨a0,un a5⟩:Cl)]) >>= fun p=>mF at_ a2 p.1 p.2) a1.tail:=by unfold sv;rw[hs,ds.out rfl,if_pos rfl]
   cases O with
   | none=>exact ⟨rfl,he.trans hq.2⟩
   | some z=>exact he.trans hq))
  clear ad ds;have c1:bb.cell? ⟨cb,1,none⟩=some (zW zX 0):=a7.out.cell 1;have cf:=a7.out.frozen 1;have cl:=a7.out.lt;go_upto_if 31 with (fail)
  go_cut [] (fun wx=>Hid (aE wx b a1 a8)∧Hid (ap wx xb 173 #[zW zX at_,zQ (bs a2),zR A J.length cv])∧Hid (ap wx rb 173 #[zW zX 0,zQ ⟨#[]⟩,zR none 0 0])∧Hid (ap wx cb 109 #[zQ (bs a0),zW zX (un a5)])∧Hid (wx.ownsRow w.heap.size 109 2 (zR A J.length cv) J.length (ah J))∧Hid (aa [b] w wx)∧Hid (RB wx lo))
  case first =>
   have bl:Hid (∀ i,i=un a5→aE (bb.setCell ⟨cb,1,none⟩ (zW zX i)) b a1 a8∧ap (bb.setCell ⟨cb,1,none⟩ (zW zX i)) xb 173 #[zW zX at_,zQ (bs a2),zR A J.length cv]∧ap (bb.setCell ⟨cb,1,none⟩ (zW zX i)) rb 173 #[zW zX 0,zQ ⟨#[]⟩,zR none 0 0]∧ap (bb.setCell ⟨cb,1,none⟩ (zW zX i)) cb 109 #[zQ (bs a0),zW zX (un a5)]∧(bb.setCell ⟨cb,1,none⟩ (zW zX i)).ownsRow w.heap.size 109 2 (zR A J.length cv) J.length (ah J)∧aa [b] w (bb.setCell ⟨cb,1,none⟩ (zW zX i))∧RB (bb.setCell ⟨cb,1,none⟩ (zW zX i)) lo):=zx (fun i e=>by
    subst e;have ff:aa [cb] bb (bb.setCell ⟨cb,1,none⟩ (zW zX (un a5))):=(zN _ _).setCell (.inl (by simp)) _;exact ⟨HP.out.set a7.out (by decide) (by decide) _,B.out.far (p:=⟨cb,1,none⟩) bq.out.1 _,D.out.far (p:=⟨cb,1,none⟩) bq.out.2.1 _,(a7.out.set 1 (zW zX (un a5))).congr rfl,bh HO.out ff (fun g hg hm=>by have:=el.out g hg;simp at hm;omega),HK.out.setCell (.inr bq.out.2.2.1) _,HE.out.go ff (fun y hy=>by rw[zD.1 hy];exact bq.out.2.2.2)⟩)
   by_cases bB:a5=[105,110,116]
   ·have HZ:=zx (bl.out 1 (by rw[bB];rfl))
    have d0:(bs a5==⟨#[105,110,116]⟩)=true:=by rw[bB];rfl
    subst bB;clear bl d0;go_wp2;go_meet;exact ⟨zx HZ.out.1,zx HZ.out.2.1,zx HZ.out.2.2.1,zx HZ.out.2.2.2.1,zx HZ.out.2.2.2.2.1,zx HZ.out.2.2.2.2.2.1,zx HZ.out.2.2.2.2.2.2⟩
   have HZ:=zx (bl.out 2 (by unfold un;rw[if_neg bB]));have d0:(a5==[105,110,116])=false:=by rw[beq_eq_false_iff_ne];exact bB
   clear bl;rw[d0];go_wp2;go_meet;exact ⟨zx HZ.out.1,zx HZ.out.2.1,zx HZ.out.2.2.1,zx HZ.out.2.2.2.1,zx HZ.out.2.2.2.2.1,zx HZ.out.2.2.2.2.2.1,zx HZ.out.2.2.2.2.2.2⟩
  obtain ⟨HP',HXB',I,bk,HO',HK',HE'⟩:=hcut;obtain ⟨b3,rfl⟩:∃ y:World,y=wc:=⟨_,rfl⟩
  clear HP B D a7 HO HK HE c1 cf cl;have HP:=HP';have B:=HXB';have D:=I;have a7:=bk;have HO:=HO';have HK:=HK';have HE:=HE';clear HP' HXB' I bk HO' HK' HE';obtain ⟨kd,ez⟩:∃ kd,un a5=kd:=⟨_,rfl⟩
  rw[ez] at a7 ct cp;clear ez;have em:=zx (show J.length+1≤maxLen∧(J.length+1)*24≤140737488355328 by have:=gm.out;have:=ep.out;simp only[maxLen];omega);have ga:=B.out.frozen 2;have x2:b3.cell? ⟨xb,2,none⟩=some (zR A J.length cv):=B.out.cell 2;have lx:=B.out.lt;have q0:b3.cell? ⟨cb,0,none⟩=some (zQ (bs a0)):=a7.out.cell 0;have q1:b3.cell? ⟨cb,1,none⟩=some (zW zX kd):=a7.out.cell 1;have lc:=a7.out.lt;have f7:=zx (show w.heap.size≤b3.heap.size+1 from Nat.le_succ_of_le HK.out.size);go_wp2_with (at_builtin;refine wpList_append_lies _ rfl _ _ 22 rfl _ 109 i0 _ 2 24 Tryz.underlying22 hi f3 gs gb rfl (by decide) _ J.length (ah J) rfl (HO.out.alloc _) ⟨b3.heap.size,0,none⟩ 1 1 [zQ (bs a0),zW zX kd] rfl rfl (zJ (heap_alloc_new _ _)) (by simp[Value.oneCell']) (by decide) em.out.1 em.out.2 (by simp;exact f7.out) _ rfl ?_)
  intro gw ft w8 ba a9 en fv;have d9:=(HP.out.keep ((zN _ _).alloc (zU #[zQ (bs a0),zW zX kd] 109))).grown a9 (fun x hx=>(av HO.out x hx).keep ((zN [] _).alloc _) (by simp)) (by decide) (by decide);have bd:ap w8 xb 173 #[zW zX at_,zQ (bs a2),zR A J.length cv]:=(a9.block xb ((B.out.alloc _).lt) (fun e=>(av HO.out xb e.symm).ne B.out.ty (by decide) rfl)).trans (B.out.alloc _);have cx:ap w8 rb 173 #[zW zX 0,zQ ⟨#[]⟩,zR none 0 0]:=(a9.block rb ((D.out.alloc _).lt) (fun e=>(av HO.out rb e.symm).ne D.out.ty (by decide) rfl)).trans (D.out.alloc _);have er:=(HK.out.alloc (zU #[zQ (bs a0),zW zX kd] 109)).grown a9 (fun g hg=> .inr (HO.out.lt g hg).1);rw[←gP] at ba;have g5:=bd.frozen 2;have x8:w8.cell? ⟨xb,2,none⟩=some (zR A J.length cv):=bd.cell 2;have g6:=bd.lt;obtain ⟨u,hu⟩:∃ u,Value.slice (some ⟨gw,0,none⟩) (J.length+1) ft=u:=⟨_,rfl⟩
  have bj:=zx (d9.set (i:=2) bd (by decide) (by decide) u);have cg:=zx ((bd.set 2 u).congr (cs':= #[zW zX at_,zQ (bs a2),u]) rfl);have c9:Hid ((w8.setCell ⟨xb,2,none⟩ u).ownsRow w.heap.size 109 2 u (J++[(⟨a0,kd⟩:Cl)]).length (ah (J++[(⟨a0,kd⟩:Cl)]))):=zx (by
   rw[zF];rw[hu] at ba;exact bh ba (L:=[xb]) (aa.setCell (zN _ _) (.inl (by simp)) _) (fun g hg hm=>by
    rw[zD.1 hm] at hg;exact (av ba xb hg).ne bd.ty (by decide) rfl))
  have co:=zx (er.setCell (p:=⟨xb,2,none⟩) (.inr cu.out) u);have b0:=zx (cx.far (p:=⟨xb,2,none⟩) bA.out.1 u);have ch:=zx (fS.out.one a6 co.out);obtain ⟨w9,c8⟩:∃ x,w8.setCell ⟨xb,2,none⟩ u=x:=⟨_,rfl⟩
  rw[c8] at bj cg c9 co b0 ch;have fz:=zx c8;have HU:=zx hu;clear ba a9 en fv d9 er q0 q1 lc x2 ga lx hu c8 cx;clear HP HO a7 B D HK HE;go_upto_region 7 with (fail)
  rw[HU.out,fz.out];have HT:=fX [44] w9 ch.out.fine bj.out
  cases hs:(a8.isNone&&aG [44] a1) with
  | false =>
   rw[hs,if_neg (by decide)] at HT;have b4:=zx HT;have d8:Hid (∀ i M O,Rl (mF at_ a2 (J++[(⟨a0,kd⟩:Cl)])) a1 a8 i M O→Rl bc l x i M O):=zx (fun i M O hq=>ct.out i M O hq (fun e=>by subst e;exact hs));have bm:Hid (a1.length≤a1.length):=zx (zz _);clear HT hs ct cp;go_wp2_with fail
   refine b4.out.mono ?_;rintro ev gk ⟨rfl,hp,Z⟩;have b7:=zx hp;have d2:=zx (bG bj.out Z cg.out (by decide));have d1:=zx (bG bj.out Z b0.out (by decide));have dq:=zx (fC c9.out bj.out Z (by decide));have d4:=zx (co.out.trans Z);have dB:=zx (ch.out.one a6 Z);clear hp Z b4;go_wp2;go_roundw
   case rel=>exact ⟨false,J++[⟨a0,kd⟩],a1,a8,0,u,rfl,zx (fun h=>by cases h),zx (fun _=>d8.out),zx (by have:=U.out;have:=cj.out;have:=bm.out;omega),b7,d2,d1,dq,d4,dB⟩
   case measure=>have:=U.out;rw[b7.out.left,HM.out];simp;omega
  | true =>
   rw[hs,if_pos rfl] at HT;have b4:=zx HT;have bn:a8=none∧aG [44] a1=true:=by
    cases a8 with
    | some y=>cases hs
    | none=>exact ⟨rfl,hs⟩
   have d8:=zx (cp.out bn.1 bn.2);have gj:=g2.out bn.1;have d5:1≤a1.tail.length:=by have:=(bj.out.endT.tail (de bn.2)).pos;exact this
   have bm:Hid (a1.tail.length+1≤a1.length):=zx (by rw[zL] at *;omega);have gi:=zx bn.1;clear HT hs ct cp bn gj d5;go_wp2_with fail
   refine b4.out.mono ?_;rintro ev gk ⟨rfl,hp,Z⟩;have b7:=zx hp;have d2:=zx (bG bj.out Z cg.out (by decide));have d1:=zx (bG bj.out Z b0.out (by decide));have dq:=zx (fC c9.out bj.out Z (by decide));have d4:=zx (co.out.trans Z);have dB:=zx (ch.out.one a6 Z);clear hp Z b4;go_wp2;go_roundw
   case rel=>exact ⟨true,J++[⟨a0,kd⟩],a1.tail,a8,n,u,rfl,zx (fun _=>⟨gi.out,by have:=g4.out;have:=U.out;have:=bm.out;omega,by have:=ep.out;have:=U.out;have:=bm.out;simp;omega,d8.out⟩),zx (fun h=>by cases h),zx (by have:=U.out;have:=cj.out;have:=bm.out;omega),b7,d2,d1,dq,d4,dB⟩
   case measure=>have:=U.out;have:=bm.out;rw[b7.out.left,HM.out];simp;omega
section
variable {W W' W7 w0:World} {base jb b g H cap m:Nat} {j:Jb} {v2 v3 v4 u:Value} {l:List Tk} {x:Option (Int×Int)} {a:Bs} {o:Obj}
theorem ar.rd (h:ar W base jb j v2 v3 v4) (A:aE W b l x) (B:aa [b] W W'):ar W' base jb j v2 v3 v4 :=
 h.far B (fun x D=>by rw[zD.1 D];exact A.ty) (by decide) (by decide)
theorem aE.box (A:aE W b l x) (h:ar W base jb j v2 v3 v4) (B:aa [jb] W W'):aE W' b l x :=
 A.far B (fun x D=>⟨59,by rw[zD.1 D];exact h.blk.ty,by decide,by decide⟩)
theorem pt (h:aE W b l x) {v:Value} (B:(W.alloc o).grownBy W7 v.ownBlock) (A:∀ x,v.ownBlock=some x→cD W x 9):aE W7 b l x :=
 (h.keep ((zN _ _).alloc o)).grown B (fun x D=>(A x D).keep ((zN [] _).alloc o) (by simp)) (by decide) (by decide)
theorem ar.app3r (h:ar W base jb j v2 v3 v4) (hp:aE W b l x) (U:aa [b] w0 W) (hb:base=w0.heap.size) (Z:base≤jb) (D:(W.alloc o).grownBy W7 v3.ownBlock) (hu:u=zR (some ⟨g,0,none⟩) m cap) (A:W7.ownsRow base 9 1 u (j.ins.length+1) (strs j.ins++[zQ (bs a)])) (J:v3.ownBlock=some g∨g=H) (hH:W.heap.size≤H) :
  ar (W7.setCell ⟨jb,3,none⟩ u) base jb { j with ins:=j.ins++[a] } v2 u v4∧aE (W7.setCell ⟨jb,3,none⟩ u) b l x∧aa [b] w0 (W7.setCell ⟨jb,3,none⟩ u):=by
 have B:=i6 h D (av h.o3);have M:aa [jb] W7 (W7.setCell ⟨jb,3,none⟩ u):=(zN _ _).setCell (.inl (by simp)) _;have O:∀ x∈[jb],cD W7 x 59:=fun x I=>by rw[zD.1 I];exact B.ty
 rw[←eP] at A;have hown':W7.ownsRow base 9 1 u (j.ins++[a]).length (strs (j.ins++[a])):=by rw[zF];exact A
 refine ⟨⟨(B.set 3 u).congr rfl,bf (eA h.o2 D h.n23) M O (by decide),bf hown' M O (by decide),bf (eA h.o4 D h.n34.symm) M O (by decide),?_,h.n24,?_⟩,?_,?_⟩
 ·exact dQ h.o2 h.n23 hu J hH
 ·exact (dQ h.o4 h.n34.symm hu J hH).symm
 ·exact (pt hp D (av h.o3)).far M (fun x I=>⟨59,O x I,by decide,by decide⟩)
 exact ((U.alloc o).grown D (fun x I=> .inr (by rw[←hb];exact (h.o3.lt x I).1))).setCell (.inr (by rw[←hb];exact Z)) _
theorem ar.app4r (h:ar W base jb j v2 v3 v4) (hp:aE W b l x) (U:aa [b] w0 W) (hb:base=w0.heap.size) (Z:base≤jb) (D:(W.alloc o).grownBy W7 v4.ownBlock) (hu:u=zR (some ⟨g,0,none⟩) m cap) (A:W7.ownsRow base 9 1 u (j.cols.length+1) (strs j.cols++[zQ (bs a)])) (J:v4.ownBlock=some g∨g=H) (hH:W.heap.size≤H) :
  ar (W7.setCell ⟨jb,4,none⟩ u) base jb { j with cols:=j.cols++[a] } v2 v3 u∧aE (W7.setCell ⟨jb,4,none⟩ u) b l x∧aa [b] w0 (W7.setCell ⟨jb,4,none⟩ u):=by
 have B:=i6 h D (av h.o4);have M:aa [jb] W7 (W7.setCell ⟨jb,4,none⟩ u):=(zN _ _).setCell (.inl (by simp)) _;have O:∀ x∈[jb],cD W7 x 59:=fun x I=>by rw[zD.1 I];exact B.ty
 rw[←eP] at A;have hown':W7.ownsRow base 9 1 u (j.cols++[a]).length (strs (j.cols++[a])):=by rw[zF];exact A
 refine ⟨⟨(B.set 4 u).congr rfl,bf (eA h.o2 D h.n24) M O (by decide),bf (eA h.o3 D h.n34) M O (by decide),bf hown' M O (by decide),h.n23,?_,?_⟩,?_,?_⟩
 ·exact dQ h.o2 h.n24 hu J hH
 ·exact dQ h.o3 h.n34 hu J hH
 ·exact (pt hp D (av h.o4)).far M (fun x I=>⟨59,O x I,by decide,by decide⟩)
 exact ((U.alloc o).grown D (fun x I=> .inr (by rw[←hb];exact (h.o4.lt x I).1))).setCell (.inr (by rw[←hb];exact Z)) _
end
theorem Rl.shift {α:Type} {P S:List Tk→Except (Int×Int) (α×List Tk)} {l A D:List Tk} {B:Option (Int×Int)} {a:α} (h:P l=S A) (k:Rl S A none a D B):Rl P l none a D B:=by
 cases B with
 | none=>exact ⟨rfl,h.trans k.2⟩
 | some y =>
  have:S A= .error y:=k;exact h.trans this
theorem sw {ws B:List Bs} (h:∀ t,t∈ws↔t∈B) (l:List Tk):bC ws l=bC B l:=by
 by_cases A:(ax l).text∈ws
 ·rw[jJ A,jJ ((h _).1 A)]
 rw[lK A,lK (fun e=>A ((h _).2 e))]
theorem Rl.same {ws A:List Bs} (h:∀ t,t∈ws↔t∈A) {l B:List Tk} {x D:Option (Int×Int)} {a:Bs} (k:Rl (bC ws) l x a B D):Rl (bC A) l x a B D:=Rl.congr (sw h l).symm k
theorem pu:∀ t:Bs,t∈[[61],[60,62],[60],[60,61],[62],[62,61]]↔t∈fN:=by
 intro t;unfold fN;simp only[List.mem_cons,List.not_mem_nil,or_false];constructor
 ·rintro (h|h|h|h|h|h)<;>simp[h]
 rintro (h|h|h|h|h|h)<;>simp[h]
def bQ (P:List Tk→Except (Int×Int) (Jb×List Tk)) (l:List Tk) (b jb:Nat) (w0 w':World):Prop:=∃ j v2 v3 v4 h A,ar w' w0.heap.size jb j v2 v3 v4∧aE w' b h A∧Rl P l none j h A∧h.length≤l.length∧aa [b] w0 w'
theorem bQ.mk {P:List Tk→Except (Int×Int) (Jb×List Tk)} {l:List Tk} {b jb:Nat} {w0 w':World} (j:Jb) (v2 v3 v4:Value) (h:List Tk) (A:Option (Int×Int)) (I:ar w' w0.heap.size jb j v2 v3 v4) (B:aE w' b h A) (M:Rl P l none j h A) (D:h.length≤l.length) (J:aa [b] w0 w'):bQ P l b jb w0 w':=⟨j,v2,v3,v4,h,A,I,B,M,D,J⟩
theorem qy (j:Jb) (l:List Tk):iz j l=(aj l >>= fun D=>aq [46] D.2 >>= fun h=>aj h >>= fun I=>aq [44] I.2 >>= fun B=>aj B >>= fun A=>aq [46] A.2 >>= fun U=>aj U >>= fun J=> .ok ({ j with ins:=j.ins++[D.1]++[A.1],cols:=j.cols++[I.1]++[J.1] },J.2)):=by
 unfold iz;conv=>lhs;arg 1;unfold pN
 rcases aj l with x|⟨a,O⟩
 ·rfl
 simp only[au];rcases aq [46] O with x|h
 ·rfl
 simp only[au];rcases aj h with x|⟨c,M⟩
 ·rfl
 simp only[au];rcases aq [44] M with x|B
 ·rfl
 simp only[au];rfl
def ai:List Bs:=[[102,105,108,116,101,114],[115,101,116],[112,114,111,106,101,99,116],[115,111,114,116],[117,110,105,111,110],[100,105,115,116,105,110,99,116],[106,111,105,110],[103,114,111,117,112],[115,112,108,105,116]]
def aO (c r:Nat):Nat:=if c≤r then c else 0
theorem dh {c r:Nat} (h:c=r+1):aO c (r+1)=r+1:=by unfold aO;rw[if_pos (by omega)];exact h
theorem dF {c r:Nat} (h:c≠r+1):aO c (r+1)=aO c r:=by
 unfold aO;by_cases A:c≤r
 ·rw[if_pos A,if_pos (by omega)]
 rw[if_neg A,if_neg (by omega)]
theorem qz (r:Nat) (A:r<ai.length):aQ ai[r]=r+1:=by
 have h:∀ r:Fin 9,aQ (ai[r.val]'r.isLt)=r.val+1:=by decide
 exact h ⟨r,A⟩
theorem lM (r:Nat) (A:r<ai.length):dW (ai[r].headD 0)=true:=by
 have h:∀ r:Fin 9,dW ((ai[r.val]'r.isLt).headD 0)=true:=by decide
 exact h ⟨r,A⟩
theorem pv (c:Nat) (D:c≠0) (A:c<10):∃ r,∃ B:r<ai.length,c=r+1∧dK.getD c []=ai[r]:=by
 have h:∀ r:Fin 9,dK.getD (r.val+1) []=ai[r.val]'r.isLt:=by decide
 obtain ⟨r,rfl⟩:∃ r,c=r+1:=⟨c-1,by omega⟩
 exact ⟨r,by show r<9;omega,rfl,h ⟨r,by omega⟩⟩
theorem dr {l:List Tk} (O:ru (ax l)) (r:Nat) (I:r<ai.length):aG ai[r] l=decide (aQ (ax l).text=r+1):=by
 by_cases h:aQ (ax l).text=r+1
 ·obtain ⟨D,hr',e,J⟩:=pv (aQ (ax l).text) (by omega) (fQ _)
  have M:D=r:=by omega
  subst M;have A:=(aU rfl (show aQ (ax l).text≠0 by omega)).trans J;have B:(ax l).kind=1:=by
   by_cases B:(ax l).kind=1
   ·exact B
   have:=O.2.2 B;rw[A,lM D I] at this;cases this
  rw[decide_eq_true h];unfold aG;rw[B,A];simp
 rw[decide_eq_false h];unfold aG;have:((ax l).text==ai[r])=false:=by
  rw[beq_eq_false_iff_ne];intro e;exact h (by rw[e];exact qz r I)
 rw[this,Bool.and_false]
theorem dy {l:List Tk} (I:ru (ax l)) (J:aQ (ax l).text≠0):(ax l).kind=1:=by
 obtain ⟨r,D,e,_⟩:=pv _ J (fQ _);have h:=dr I r D;rw[decide_eq_true e] at h;by_cases A:(ax l).kind=1
 ·exact A
 have B:=I.2.2 A;unfold aG at h;simp only[Bool.and_eq_true,beq_iff_eq] at h;rw[h.2,lM r D] at B;cases B
theorem cB (m:Int) (w:World) (A:w.cell? ⟨5,0,none⟩=some (zW zX m)):Calls zy 66 #[zQ (bs [102,105,108,116,101,114,32,115,101,116,32,112,114,111,106,101,99,116,32,115,111,114,116,32,117,110,105,111,110,32,100,105,115,116,105,110,99,116,32,106,111,105,110,32,103,114,111,117,112,32,115,112,108,105,116]),zQ (bs [32])] w fun e w'=>e=zT (zR (some ⟨w.heap.size,0,none⟩) 9 9)∧w'=w.alloc (zU (strs ai).toArray 9):=by
 have h:=Tryz.strings_Split (bs [102,105,108,116,101,114,32,115,101,116,32,112,114,111,106,101,99,116,32,115,111,114,116,32,117,110,105,111,110,32,100,105,115,116,105,110,99,116,32,106,111,105,110,32,103,114,111,117,112,32,115,112,108,105,116]) (bs [32]) m w (by decide) A (by decide);have e1:Lib.countB (bs [102,105,108,116,101,114,32,115,101,116,32,112,114,111,106,101,99,116,32,115,111,114,116,32,117,110,105,111,110,32,100,105,115,116,105,110,99,116,32,106,111,105,110,32,103,114,111,117,112,32,115,112,108,105,116]) (bs [32])=8:=by kernel_rfl
 have e2:(Lib.splitB (bs [32]) 0 8 (bs [102,105,108,116,101,114,32,115,101,116,32,112,114,111,106,101,99,116,32,115,111,114,116,32,117,110,105,111,110,32,100,105,115,116,105,110,99,116,32,106,111,105,110,32,103,114,111,117,112,32,115,112,108,105,116])).map Value.string=strs ai:=by kernel_rfl
 rw[e1,e2] at h;exact h
theorem vA {l:List Tk} {b jb lo:Nat} {v2:Value} (at_:Int) (outs:List Bs) (A:Int) (w0 w:World) (hE:RB w0 lo) (a7:lo≤b) (h:aE w b l none) (J:aa [b] w0 w) (bb:w0.heap.size≤jb) (hj:ar w w0.heap.size jb (aM at_ outs A) v2 (zR none 0 0) (zR none 0 0)) (bj:l.length≤1000000) (a2:aQ (ax l).text=0) :
  Calls zy 150 #[zS (some ⟨b,0,none⟩),zS (some ⟨jb,0,none⟩)] w fun e w'=>e=zT (.tuple #[])∧bQ (am (aM at_ outs A)) l b jb w0 w':=by
 obtain ⟨i0,hi,b7,cj,cg⟩:=info_parts eF;have bn:=zx hE;have HP:=zx h;have HK:=zx J;have M:Hid (ar w w0.heap.size jb (⟨at_,0,outs,[],[],[],⟨[],zV⟩,⟨[],zV⟩,A⟩:Jb) v2 (zR none 0 0) (zR none 0 0)):=zx hj;have HE:=zx (hE.one a7 J);have bl:=zx bb;have ci:=zx bj;have bm:=zx (zz l.length);have bk:ru (ax l):=by obtain ⟨_,_,_,_,_,_,_,_,_,_,_,_,_,_,_,_,hh⟩:=h.open';exact hh
 have b4:=zx (fun r hr=>dr bk r hr);have bA:=zx a2;have cf:Hid (([]:List Bs).length≤100):=zx (by simp);have HD:Hid (∀ i l',Rl (am (aM at_ outs A)) l none i l' (some (3,(ax l).at_))):=zx (fun i l'=>by
  show am (aM at_ outs A) l=_;unfold am;rw[if_pos (.inl a2)];rfl)
 clear hE h J hj bj bb a2 bk;obtain ⟨mx,bd⟩:=HE.out.renv.mlen;have a5:=zx (cB mx w bd);clear bd;go_enter Tryz.func150,Tryz.ntmps150
 go_wp2_with fail
 refine a5.out.mono ?_;rintro ev w1 ⟨rfl,rfl⟩;have a0:=zO w 9 (strs ai).toArray;have aA:aa [] w (w.alloc (zU (strs ai).toArray 9)):=(zN _ _).alloc _;have HP':=zx (HP.out.keep aA);have HJ':=zx (M.out.keep aA);have HK':=zx (HK.out.trans aA.of_nil);obtain ⟨B,hB⟩:∃ B,w.heap.size=B:=⟨_,rfl⟩
 have b3:Hid (B≠b∧jb≠B):=zx (by have:=HP.out.lt;have:=M.out.blk.lt;omega);rw[hB] at a0 ⊢;obtain ⟨w1,a6⟩:∃ z,w.alloc (zU (strs ai).toArray 9)=z:=⟨_,rfl⟩
 rw[a6] at a0 HP' HJ' HK' ⊢;have I:=zx a0;clear a0 aA hB a6 HP M HK HE a5;go_wp2_with fail
 go_loopw [8] (fun i wr=>∃ r:Nat,r≤9∧i=zW zX r∧Hid (aE wr b l none)∧Hid (ar wr w0.heap.size jb (⟨at_,(aO 0 r:Nat),outs,[],[],[],⟨[],zV⟩,⟨[],zV⟩,A⟩:Jb) v2 (zR none 0 0) (zR none 0 0))∧Hid (ap wr B 9 (strs ai).toArray)∧Hid (aa [b] w0 wr)) (fun i _=>9-(intOf i).toNat)
 case atStart=>exact ⟨0,zE _,rfl,HP',HJ',I,HK'⟩
 clear HP' HJ' HK' I;obtain ⟨r,hr,rfl,HP,M,I,HK⟩:=hrel;have HE:=zx (bn.out.one a7 HK.out);by_cases a9:r<9
 ·have b6:(r:Int)<9:=by omega
  have a3:r<ai.length:=a9;have a4:wr.cell? ⟨B,r,none⟩=some (zQ (bs ai[r])):=by
   rw[I.out.cell r];simp[strs,zI a3]
  have lb:=I.out.lt;have hS:=cL ai[r] wr HE.out.fine HP.out;rw[b4.out r a3,bA.out] at hS;obtain ⟨wd,ba⟩:∃ wd,ai[r]=wd:=⟨_,rfl⟩
  rw[ba] at hS a4;clear ba a3;by_cases hc:(0:Nat)=r+1
  ·rw[decide_eq_true hc] at hS
   have HS:=zx hS;have b5:Hid (((r:Int)+1)=(aO 0 (r+1):Nat)):=zx (by rw[dh hc];omega);clear hS hc;go_wp2_with fail
   refine HS.out.mono ?_;rintro ev w2 ⟨Z,J⟩;have hev':ev=zT (.bool true):=Z;subst hev';have O:=zx (HP.out.keep J);have D:=zx (M.out.keep J);have a1:=zx (I.out.keep J (by simp));have U:=zx (HK.out.trans J.of_nil);have ch:=D.out.blk.frozen 1;have a8:w2.cell? ⟨jb,1,none⟩=some (zW zX (aO 0 r:Nat)):=D.out.blk.cell 1;have lj:=D.out.blk.lt;clear Z J HP M I HK HS a4 lb;have ad:aa [jb] w2 (w2.setCell ⟨jb,1,none⟩ (zW zX ((r:Int)+1))):=(zN _ _).setCell (.inl (by simp)) _;have b1:Hid (ar (w2.setCell ⟨jb,1,none⟩ (zW zX ((r:Int)+1))) w0.heap.size jb (⟨at_,(aO 0 (r+1):Nat),outs,[],[],[],⟨[],zV⟩,⟨[],zV⟩,A⟩:Jb) v2 (zR none 0 0) (zR none 0 0)):=zx (D.out.box ad ((D.out.blk.set 1 (zW zX ((r:Int)+1))).congr (by rw[b5.out];rfl)) rfl rfl rfl);have bq:=zx (O.out.box D.out ad);have b0:=zx (U.out.box bl.out ad);have bB:=zx (a1.out.far (p:=⟨jb,1,none⟩) (fun e=>b3.out.2 e.symm) (zW zX ((r:Int)+1)));clear ad;go_wp2;go_roundw
   case rel=>exact ⟨r+1,by omega,by go_num,bq,b1,bB,b0⟩
   case measure=>simp[intOf];omega
  rw[decide_eq_false hc] at hS;have HS:=zx hS;have bo:Hid (aO 0 (r+1)=aO 0 r):=zx (dF hc);clear hS hc;go_wp2_with fail
  refine HS.out.mono ?_;rintro ev w2 ⟨Z,J⟩;have hev':ev=zT (.bool false):=Z;subst hev';have O:=zx (HP.out.keep J);have D:=zx (M.out.keep J);have a1:=zx (I.out.keep J (by simp));have U:=zx (HK.out.trans J.of_nil);clear Z J HP M I HK HS a4 lb;go_wp2;go_roundw
  case rel=>exact ⟨r+1,by omega,by go_num,O,by rw[bo.out];exact D,a1,U⟩
  case measure=>simp[intOf];omega
 obtain rfl:r=9:=by omega
 have HJ':Hid (ar wr w0.heap.size jb (⟨at_,0,outs,[],[],[],⟨[],zV⟩,⟨[],zV⟩,A⟩:Jb) v2 (zR none 0 0) (zR none 0 0)):=zx M.out;clear M I hr a9;have M:=HJ';clear HJ';have a8:wr.cell? ⟨jb,1,none⟩=some (zW zX 0):=M.out.blk.cell 1;have lj:=M.out.blk.lt;go_wp2_with fail
 refine (aY 3 (by decide) wr HE.out.fine HP.out).mono ?_;rintro ev y1 ⟨rfl,hp,J⟩;have D:=zx (M.out.rd HP.out J);have U:=zx (HK.out.trans J);have O:=zx hp;clear hp J a8 lj;go_wp2;first|go_end0|refine bodyPost_ret (results_none rfl _ _ _) rfl ?_
 exact ⟨rfl,bQ.mk _ _ _ _ l _ D.out O.out (HD.out _ _) bm.out U.out⟩
theorem vB {l:List Tk} {b jb lo:Nat} {v2:Value} (at_:Int) (outs:List Bs) (A:Int) (w0 w:World) (hE:RB w0 lo) (a1:lo≤b) (h:aE w b l none) (I:aa [b] w0 w) (c4:w0.heap.size≤jb) (hj:ar w w0.heap.size jb (aM at_ outs A) v2 (zR none 0 0) (zR none 0 0)) (c8:l.length≤1000000) (bl:aQ (ax l).text=1) :
  Calls zy 150 #[zS (some ⟨b,0,none⟩),zS (some ⟨jb,0,none⟩)] w fun e w'=>e=zT (.tuple #[])∧bQ (am (aM at_ outs A)) l b jb w0 w':=by
 obtain ⟨i0,hi,d3,er,el⟩:=info_parts eF;have bn:=zx hE;have J:=zx h;have U:=zx I;have D:Hid (ar w w0.heap.size jb (⟨at_,0,outs,[],[],[],⟨[],zV⟩,⟨[],zV⟩,A⟩:Jb) v2 (zR none 0 0) (zR none 0 0)):=zx hj;have O:=zx (hE.one a1 I);have bj:=zx c4;have en:=zx c8;have Z:=zx (zz l.length);have ch:ru (ax l):=by obtain ⟨_,_,_,_,_,_,_,_,_,_,_,_,_,_,_,_,hh⟩:=h.open';exact hh
 have ds:=zx (fun r hr=>dr ch r hr);have c3:=zx bl;have bq:Hid (([]:List Bs).length≤100):=zx (by simp);have b7:=dy ch (by rw[bl];decide);have ad:Hid (∀ i l' x',Rl (fun r=>aj r >>= fun p0=>(fun r=>aq [119,104,101,114,101] r >>= (fun r=>aj r >>= fun p2=>(fun r=>bC fN r >>= fun p3=>(fun r=>bN r >>= fun p4=>(fun r=> .ok ((⟨at_,1,outs,[]++[p0.1],[],p3.1,⟨p2.1,zV⟩,p4.1,A⟩:Jb),r)) p4.2) p3.2) p2.2)) p0.2) l.tail none i l' x'→Rl (am (aM at_ outs A)) l none i l' x'):=zx (fun i l' x' hq=>Rl.shift (by
  unfold am;rw[bl,if_neg (by rw[b7];decide)];rfl) hq)
 have bB:(ax l).text=[102,105,108,116,101,114]:=aU bl (by decide);have c9:aG [102,105,108,116,101,114] l=true:=by
  unfold aG;rw[b7,bB];rfl
 have dq:=zx c9;have ct:=zx bB;clear hE h I hj c8 c4 bl ch b7 c9 bB;obtain ⟨mx,c5⟩:=O.out.renv.mlen;have cp:=zx (cB mx w c5);clear c5;go_enter Tryz.func150,Tryz.ntmps150
 go_wp2_with fail
 refine cp.out.mono ?_;rintro ev w1 ⟨rfl,rfl⟩;have bA:=zO w 9 (strs ai).toArray;have bm:aa [] w (w.alloc (zU (strs ai).toArray 9)):=(zN _ _).alloc _;have HP':=zx (J.out.keep bm);have HJ':=zx (D.out.keep bm);have HK':=zx (U.out.trans bm.of_nil);obtain ⟨B,hB⟩:∃ B,w.heap.size=B:=⟨_,rfl⟩
 have es:Hid (B≠b∧jb≠B):=zx (by have:=J.out.lt;have:=D.out.blk.lt;omega);rw[hB] at bA ⊢;obtain ⟨w1,cq⟩:∃ z,w.alloc (zU (strs ai).toArray 9)=z:=⟨_,rfl⟩
 rw[cq] at bA HP' HJ' HK' ⊢;have a6:=zx bA;clear bA bm hB cq J D U O cp;go_wp2_with fail
 go_loopw [8] (fun i wr=>∃ r:Nat,r≤9∧i=zW zX r∧Hid (aE wr b l none)∧Hid (ar wr w0.heap.size jb (⟨at_,(aO 1 r:Nat),outs,[],[],[],⟨[],zV⟩,⟨[],zV⟩,A⟩:Jb) v2 (zR none 0 0) (zR none 0 0))∧Hid (ap wr B 9 (strs ai).toArray)∧Hid (aa [b] w0 wr)) (fun i _=>9-(intOf i).toNat)
 case atStart=>exact ⟨0,zE _,rfl,HP',HJ',a6,HK'⟩
 clear HP' HJ' HK' a6;obtain ⟨r,hr,rfl,J,D,a6,U⟩:=hrel;have O:=zx (bn.out.one a1 U.out);by_cases cu:r<9
 ·have fv:(r:Int)<9:=by omega
  have ci:r<ai.length:=cu;have cj:wr.cell? ⟨B,r,none⟩=some (zQ (bs ai[r])):=by
   rw[a6.out.cell r];simp[strs,zI ci]
  have lb:=a6.out.lt;have hS:=cL ai[r] wr O.out.fine J.out;rw[ds.out r ci,c3.out] at hS;obtain ⟨wd,cv⟩:∃ wd,ai[r]=wd:=⟨_,rfl⟩
  rw[cv] at hS cj;clear cv ci;by_cases hc:(1:Nat)=r+1
  ·rw[decide_eq_true hc] at hS
   have HS:=zx hS;have e0:Hid (((r:Int)+1)=(aO 1 (r+1):Nat)):=zx (by rw[dh hc];omega);clear hS hc;go_wp2_with fail
   refine HS.out.mono ?_;rintro ev w2 ⟨a4,I⟩;have hev':ev=zT (.bool true):=a4;subst hev';have b0:=zx (J.out.keep I);have a8:=zx (D.out.keep I);have b3:=zx (a6.out.keep I (by simp));have cf:=zx (U.out.trans I.of_nil);have f1:=a8.out.blk.frozen 1;have bo:w2.cell? ⟨jb,1,none⟩=some (zW zX (aO 1 r:Nat)):=a8.out.blk.cell 1;have lj:=a8.out.blk.lt;clear a4 I J D a6 U HS cj lb;have a0:aa [jb] w2 (w2.setCell ⟨jb,1,none⟩ (zW zX ((r:Int)+1))):=(zN _ _).setCell (.inl (by simp)) _;have ep:Hid (ar (w2.setCell ⟨jb,1,none⟩ (zW zX ((r:Int)+1))) w0.heap.size jb (⟨at_,(aO 1 (r+1):Nat),outs,[],[],[],⟨[],zV⟩,⟨[],zV⟩,A⟩:Jb) v2 (zR none 0 0) (zR none 0 0)):=zx (a8.out.box a0 ((a8.out.blk.set 1 (zW zX ((r:Int)+1))).congr (by rw[e0.out];rfl)) rfl rfl rfl);have d6:=zx (b0.out.box a8.out a0);have em:=zx (cf.out.box bj.out a0);have eb:=zx (b3.out.far (p:=⟨jb,1,none⟩) (fun e=>es.out.2 e.symm) (zW zX ((r:Int)+1)));clear a0;go_wp2;go_roundw
   case rel=>exact ⟨r+1,by omega,by go_num,d6,ep,eb,em⟩
   case measure=>simp[intOf];omega
  rw[decide_eq_false hc] at hS;have HS:=zx hS;have d4:Hid (aO 1 (r+1)=aO 1 r):=zx (dF hc);clear hS hc;go_wp2_with fail
  refine HS.out.mono ?_;rintro ev w2 ⟨a4,I⟩;have hev':ev=zT (.bool false):=a4;subst hev';have b0:=zx (J.out.keep I);have a8:=zx (D.out.keep I);have b3:=zx (a6.out.keep I (by simp));have cf:=zx (U.out.trans I.of_nil);clear a4 I J D a6 U HS cj lb;go_wp2;go_roundw
  case rel=>exact ⟨r+1,by omega,by go_num,b0,by rw[d4.out];exact a8,b3,cf⟩
  case measure=>simp[intOf];omega
 obtain rfl:r=9:=by omega
 have HJ':Hid (ar wr w0.heap.size jb (⟨at_,1,outs,[],[],[],⟨[],zV⟩,⟨[],zV⟩,A⟩:Jb) v2 (zR none 0 0) (zR none 0 0)):=zx D.out;clear D a6 hr cu;have D:=HJ';clear HJ';have bo:wr.cell? ⟨jb,1,none⟩=some (zW zX 1):=D.out.blk.cell 1;have lj:=D.out.blk.lt;obtain ⟨g,o,c,c0,c1,c2,-,lb,lg,-,hn,hc,d8,k0,k1,k2,-⟩:=J.out.open';rw[ct.out] at k1;have ez:(0:Int)<(l.length:Int):=by omega
 have HC:=zx (aJ [102,105,108,116,101,114] wr O.out.fine (O.out.fne a1) J.out);go_wp2_with fail
 refine HC.out.mono ?_;rintro ev y1 ⟨rfl,⟨q1,x1,hp,hr,M⟩,I⟩;obtain ⟨rfl,rfl⟩:=cI hr dq.out;clear hr c0 c1 c2 lb lg hn hc d8 k0 k1 k2 ez bo lj dq ct ds c3;have HJ':=zx (D.out.rd J.out I);have HK':=zx (U.out.trans I);have HE':=zx (O.out.one a1 I);have HP':=zx hp;clear D U O J I hp HC;have D:=HJ';have U:=HK';have O:=HE';have J:=HP';clear HJ' HK' HE' HP';have a3:=zx (zA M Z.out);clear M Z;have Z:=a3;clear a3;obtain ⟨q1,c7⟩:∃ q1,l.tail=q1:=⟨_,rfl⟩
 rw[c7] at J ad Z;clear c7;go_upto_region 9 with (fail)
 have fS:y1.cell? ⟨jb,3,none⟩=some (zR none 0 0)∧y1.frozen? ⟨jb,3,none⟩=false:=⟨D.out.blk.cell 3,D.out.blk.frozen 3⟩;have lj:=D.out.blk.lt;have b1:=zx (show (([]:List Bs)).length+1≤maxLen∧((([]:List Bs)).length+1)*16≤140737488355328 by have:=bq.out;simp only[maxLen,zG,zK] at *;omega);have c6:Hid (jb∉[b]):=zx (by have:=D.out.blk.ty.ne J.out.ty (by decide);simpa using this);have HC:Hid (∀ W,aa [] y1 W→Calls zy 101 #[zS (some ⟨b,0,none⟩)] W fun e w'=>∃ s l' x',e=zT (zQ (bs s))∧aE w' b l' x'∧Rl aj q1 none s l' x'∧s.length≤10∧l'.length≤q1.length∧aa [b] W w'):=zx (fun W z=>aS W (O.out.quiet z).fine (O.out.fne a1) (J.out.keep z));go_cut [] (fun wx=>∃ a2 q2 x2 bk,ar wx w0.heap.size jb (⟨at_,1,outs,[]++[a2],[],[],⟨[],zV⟩,⟨[],zV⟩,A⟩:Jb) v2 bk (zR none 0 0)∧aE wx b q2 x2∧Rl aj q1 none a2 q2 x2∧q2.length≤q1.length∧aa [b] w0 wx)
 case first =>
  go_region_law (first|(refine step_append_lies _ (by rfl) _ _ _ (by rfl) w0.heap.size 9 i0 _ 1 16 Tryz.underlying55 hi d3 er el rfl (by decide) (zR none 0 0) (([]:List Bs)).length (strs (([]:List Bs))) (by rfl) ((D.out.rd J.out bb.undrew).o3.alloc _) ⟨w6.heap.size,0,none⟩ 1 1 [zQ (bs a2)] (by rfl) rfl (zJ (heap_alloc_new _ _)) (by simp[Value.oneCell']) (by decide) b1.out.1 b1.out.2 (by have:=U.out.size;have:=bb.size;have h9:y1.drew.heap.size=y1.heap.size:=rfl;simp;omega) _ rfl ?_;intro gw f2 w7 b5 bd dB e3;obtain ⟨f0,fz⟩:=az bd (ay ⟨cx,d2⟩ _) (fun e=>(av (D.out.rd J.out bb.undrew).o3 jb e).ne (D.out.rd J.out bb.undrew).blk.ty (by decide) rfl))|(go_simp;go_at_call 101;refine (HC.out _ (zN [] y1).drew).mono ?_;rintro e w6 ⟨a2,q2,x2,rfl,d9,d7,fu,co,bb⟩;obtain ⟨cx,d2⟩:=aC bb fS c6.out;have ft:jb<w6.heap.size:=zB w6 ⟨jb,3,none⟩ cx))
  all_goals
   go_wp2;go_meet;have hh:=ar.app3r (D.out.rd J.out bb.undrew) d9 (U.out.trans bb.undrew) rfl bj.out bd rfl b5 dB (by simp);exact ⟨a2,q2,x2,_,hh.1,hh.2.1,d7,co,hh.2.2⟩
 obtain ⟨a2,q2,x2,bk,hj,hp,hr,M,I⟩:=hcut;obtain ⟨y2,rfl⟩:∃ y:World,y=wc:=⟨_,rfl⟩
 clear J D U O HC fS lj b1 c6;have J:=zx hp;have D:=zx hj;have U:=zx I;have O:=zx (bn.out.one a1 I);clear hp hj I;have HIM':Hid (∀ i l' x',Rl (fun r=>aq [119,104,101,114,101] r >>= (fun r=>aj r >>= fun p2=>(fun r=>bC fN r >>= fun p3=>(fun r=>bN r >>= fun p4=>(fun r=> .ok ((⟨at_,1,outs,[]++[a2],[],p3.1,⟨p2.1,zV⟩,p4.1,A⟩:Jb),r)) p4.2) p3.2) p2.2)) q2 x2 i l' x'→Rl (am (aM at_ outs A)) l none i l' x'):=zx (fun i l' x' hq=>ad.out i l' x' (Rl.bind (Q:=fun a=>fun r=>aq [119,104,101,114,101] r >>= (fun r=>aj r >>= fun p2=>(fun r=>bC fN r >>= fun p3=>(fun r=>bN r >>= fun p4=>(fun r=> .ok ((⟨at_,1,outs,[]++[a],[],p3.1,⟨p2.1,zV⟩,p4.1,A⟩:Jb),r)) p4.2) p3.2) p2.2)) hr hq));clear ad hr;have ad:=HIM';clear HIM';have a3:=zx (zA M Z.out);clear M Z;have Z:=a3;clear a3;have b6:Hid (([]++[a2]).length≤101):=zx (by have:=bq.out;simp only[zF,zG,zK] at *;omega);obtain ⟨il2,dv⟩:∃ il,[]++[a2]=il:=⟨_,rfl⟩
 rw[dv] at D ad b6;clear dv bq;have bq:=b6;clear b6;have bo:y2.cell? ⟨jb,1,none⟩=some (zW zX 1):=D.out.blk.cell 1;have lj:=D.out.blk.lt;have HC:=zx (aJ [119,104,101,114,101] y2 O.out.fine (O.out.fne a1) J.out);go_wp2_with fail
 refine HC.out.mono ?_;rintro ev y3 ⟨rfl,⟨q3,x3,hp,hr,M⟩,I⟩;have HIM':Hid (∀ i l' x',Rl (fun r=>aj r >>= fun p2=>(fun r=>bC fN r >>= fun p3=>(fun r=>bN r >>= fun p4=>(fun r=> .ok ((⟨at_,1,outs,il2,[],p3.1,⟨p2.1,zV⟩,p4.1,A⟩:Jb),r)) p4.2) p3.2) p2.2) q3 x3 i l' x'→Rl (am (aM at_ outs A)) l none i l' x'):=zx (fun i l' x' hq=>ad.out i l' x' (Rl.must hr hq));clear ad hr;have ad:=HIM';clear HIM';have HJ':=zx (D.out.rd J.out I);have HK':=zx (U.out.trans I);have HE':=zx (O.out.one a1 I);have HP':=zx hp;clear D U O J I hp HC;have D:=HJ';have U:=HK';have O:=HE';have J:=HP';clear HJ' HK' HE' HP';have a3:=zx (zA M Z.out);clear M Z;have Z:=a3;clear a3;clear bo lj
 cases x3 with
 | some y =>
  have HD:Hid (∀ i l',Rl (am (aM at_ outs A)) l none i l' (some y)):=zx (fun i l'=>ad.out i l' _ rfl);clear ad;have HC:=zx (aN y3 O.out.fine J.out);go_wp2_with fail
  refine HC.out.mono ?_;rintro ev y4 ⟨a4,I⟩;have hev':ev=zT (.bool false):=a4;subst hev';clear a4;have HJ':=zx (D.out.keep I);have HK':=zx (U.out.trans I.of_nil);have HE':=zx (O.out.quiet I);have HP':=zx (J.out.keep I);clear D U O J I HC;have D:=HJ';have U:=HK';have O:=HE';have J:=HP';clear HJ' HK' HE' HP';have a9:Hid (Rl (am (aM at_ outs A)) l none (⟨at_,1,outs,il2,[],[],⟨[],zV⟩,⟨[],zV⟩,A⟩:Jb) q3 (some y)):=zx (HD.out _ _);go_wp2;first|go_end0|refine bodyPost_ret (results_none rfl _ _ _) rfl ?_
  exact ⟨rfl,bQ.mk (⟨at_,1,outs,il2,[],[],⟨[],zV⟩,⟨[],zV⟩,A⟩:Jb) _ _ _ q3 (some y) D.out J.out a9.out Z.out U.out⟩
 | none =>
  have HC:=zx (aN y3 O.out.fine J.out);go_wp2_with fail
  refine HC.out.mono ?_;rintro ev y4 ⟨a4,I⟩;have hev':ev=zT (.bool true):=a4;subst hev';clear a4;have HJ':=zx (D.out.keep I);have HK':=zx (U.out.trans I.of_nil);have HE':=zx (O.out.quiet I);have HP':=zx (J.out.keep I);clear D U O J I HC;have D:=HJ';have U:=HK';have O:=HE';have J:=HP';clear HJ' HK' HE' HP';have HC:=zx (aS y4 O.out.fine (O.out.fne a1) J.out);go_wp2_with fail
  refine HC.out.mono ?_;rintro ev y5 ⟨a5,q5,x5,rfl,hp,hr,hs,M,I⟩;clear hs;have HIM':Hid (∀ i l' x',Rl (fun r=>bC fN r >>= fun p3=>(fun r=>bN r >>= fun p4=>(fun r=> .ok ((⟨at_,1,outs,il2,[],p3.1,⟨a5,zV⟩,p4.1,A⟩:Jb),r)) p4.2) p3.2) q5 x5 i l' x'→Rl (am (aM at_ outs A)) l none i l' x'):=zx (fun i l' x' hq=>ad.out i l' x' (Rl.bind (Q:=fun a=>fun r=>bC fN r >>= fun p3=>(fun r=>bN r >>= fun p4=>(fun r=> .ok ((⟨at_,1,outs,il2,[],p3.1,⟨a,zV⟩,p4.1,A⟩:Jb),r)) p4.2) p3.2) hr hq));clear ad hr;have ad:=HIM';clear HIM';have HJ':=zx (D.out.rd J.out I);have HK':=zx (U.out.trans I);have HE':=zx (O.out.one a1 I);have HP':=zx hp;clear D U O J I hp HC;have D:=HJ';have U:=HK';have O:=HE';have J:=HP';clear HJ' HK' HE' HP';have a3:=zx (zA M Z.out);clear M Z;have Z:=a3;clear a3;have d5:=D.out.blk.frozen 6;have ek:y5.cell? ⟨jb,6,none⟩=some (zQ (bs [])):=D.out.blk.cell 6;have lj:=D.out.blk.lt;have a0:aa [jb] y5 (y5.setCell ⟨jb,6,none⟩ (zQ (bs a5))):=(zN _ _).setCell (.inl (by simp)) _;have HJ':Hid (ar (y5.setCell ⟨jb,6,none⟩ (zQ (bs a5))) w0.heap.size jb (⟨at_,1,outs,il2,[],[],⟨a5,zV⟩,⟨[],zV⟩,A⟩:Jb) v2 bk (zR none 0 0)):=zx (D.out.box a0 ((D.out.blk.set 6 (zQ (bs a5))).congr (by rfl)) rfl rfl rfl);have HP':=zx (J.out.box D.out a0);have HK':=zx (U.out.box bj.out a0);have HE':=zx (bn.out.one a1 HK'.out);clear a0;go_upto_region 16 with (fail)
  obtain ⟨y6,hy⟩:∃ x,(y5.setCell ⟨jb,6,none⟩ (zQ (bs a5)))=x:=⟨_,rfl⟩
  rw[hy] at HJ' HP' HK' HE' ⊢;clear hy d5 ek lj D J U O;have D:=HJ';have J:=HP';have U:=HK';have O:=HE';clear HJ' HP' HK' HE';have HC:=zx (fY [61,32,60,62,32,60,32,60,61,32,62,32,62,61] [[61],[60,62],[60],[60,61],[62],[62,61]] (by decide) (by decide) (by decide) (by decide) y6 O.out.renv (O.out.fne a1) (O.out.mne a1) J.out);go_wp2_with fail
  refine HC.out.mono ?_;rintro ev y7 ⟨a7,q7,x7,rfl,hp,hr,hs,M,I⟩;clear hs;replace hr:=Rl.same pu hr;have HIM':Hid (∀ i l' x',Rl (fun r=>bN r >>= fun p4=>(fun r=> .ok ((⟨at_,1,outs,il2,[],a7,⟨a5,zV⟩,p4.1,A⟩:Jb),r)) p4.2) q7 x7 i l' x'→Rl (am (aM at_ outs A)) l none i l' x'):=zx (fun i l' x' hq=>ad.out i l' x' (Rl.bind (Q:=fun a=>fun r=>bN r >>= fun p4=>(fun r=> .ok ((⟨at_,1,outs,il2,[],a,⟨a5,zV⟩,p4.1,A⟩:Jb),r)) p4.2) hr hq));clear ad hr;have ad:=HIM';clear HIM';have HJ':=zx (D.out.rd J.out I);have HK':=zx (U.out.trans I);have HE':=zx (O.out.one a1 I);have HP':=zx hp;clear D U O J I hp HC;have D:=HJ';have U:=HK';have O:=HE';have J:=HP';clear HJ' HK' HE' HP';have a3:=zx (zA M Z.out);clear M Z;have Z:=a3;clear a3;have d0:=D.out.blk.frozen 5;have d1:y7.cell? ⟨jb,5,none⟩=some (zQ (bs [])):=D.out.blk.cell 5;have lj:=D.out.blk.lt;have a0:aa [jb] y7 (y7.setCell ⟨jb,5,none⟩ (zQ (bs a7))):=(zN _ _).setCell (.inl (by simp)) _;have HJ':Hid (ar (y7.setCell ⟨jb,5,none⟩ (zQ (bs a7))) w0.heap.size jb (⟨at_,1,outs,il2,[],a7,⟨a5,zV⟩,⟨[],zV⟩,A⟩:Jb) v2 bk (zR none 0 0)):=zx (D.out.box a0 ((D.out.blk.set 5 (zQ (bs a7))).congr (by rfl)) rfl rfl rfl);have HP':=zx (J.out.box D.out a0);have HK':=zx (U.out.box bj.out a0);have HE':=zx (bn.out.one a1 HK'.out);clear a0;go_upto_region 17 with (fail)
  obtain ⟨y8,hy⟩:∃ x,(y7.setCell ⟨jb,5,none⟩ (zQ (bs a7)))=x:=⟨_,rfl⟩
  rw[hy] at HJ' HP' HK' HE' ⊢;clear hy d0 d1 lj D J U O;have D:=HJ';have J:=HP';have U:=HK';have O:=HE';clear HJ' HP' HK' HE'
  cases x7 with
  | some y =>
   have HD:Hid (∀ i l',Rl (am (aM at_ outs A)) l none i l' (some y)):=zx (fun i l'=>ad.out i l' _ rfl);clear ad;have HC:=zx (aN y8 O.out.fine J.out);go_wp2_with fail
   refine HC.out.mono ?_;rintro ev y9 ⟨a4,I⟩;have hev':ev=zT (.bool false):=a4;subst hev';clear a4;have HJ':=zx (D.out.keep I);have HK':=zx (U.out.trans I.of_nil);have HE':=zx (O.out.quiet I);have HP':=zx (J.out.keep I);clear D U O J I HC;have D:=HJ';have U:=HK';have O:=HE';have J:=HP';clear HJ' HK' HE' HP';have a9:Hid (Rl (am (aM at_ outs A)) l none (⟨at_,1,outs,il2,[],a7,⟨a5,zV⟩,⟨[],zV⟩,A⟩:Jb) q7 (some y)):=zx (HD.out _ _);go_wp2;first|go_end0|refine bodyPost_ret (results_none rfl _ _ _) rfl ?_
   exact ⟨rfl,bQ.mk (⟨at_,1,outs,il2,[],a7,⟨a5,zV⟩,⟨[],zV⟩,A⟩:Jb) _ _ _ q7 (some y) D.out J.out a9.out Z.out U.out⟩
  | none =>
   have HC:=zx (aN y8 O.out.fine J.out);go_wp2_with fail
   refine HC.out.mono ?_;rintro ev y9 ⟨a4,I⟩;have hev':ev=zT (.bool true):=a4;subst hev';clear a4;have HJ':=zx (D.out.keep I);have HK':=zx (U.out.trans I.of_nil);have HE':=zx (O.out.quiet I);have HP':=zx (J.out.keep I);clear D U O J I HC;have D:=HJ';have U:=HK';have O:=HE';have J:=HP';clear HJ' HK' HE' HP';have HC:=zx (jk y9 O.out a1 J.out (zA Z.out en.out));go_wp2_with fail
   refine HC.out.mono ?_;rintro ev ba ⟨aA,cg,b4,he,hp,hr,M,I⟩;have et:ev=zT (.agg #[zQ (bs aA.col),zW zX aA.val.kind,zW zX aA.val.num,zQ (bs aA.val.word)]):=he;subst et;clear he;have HIM':Hid (∀ i l' x',Rl (fun r=> .ok ((⟨at_,1,outs,il2,[],a7,⟨a5,zV⟩,aA,A⟩:Jb),r)) cg b4 i l' x'→Rl (am (aM at_ outs A)) l none i l' x'):=zx (fun i l' x' hq=>ad.out i l' x' (Rl.bind (Q:=fun a=>fun r=> .ok ((⟨at_,1,outs,il2,[],a7,⟨a5,zV⟩,a,A⟩:Jb),r)) hr hq));clear ad hr;have ad:=HIM';clear HIM';have HJ':=zx (D.out.rd J.out I);have HK':=zx (U.out.trans I);have HE':=zx (O.out.one a1 I);have HP':=zx hp;clear D U O J I hp HC;have D:=HJ';have U:=HK';have O:=HE';have J:=HP';clear HJ' HK' HE' HP';have a3:=zx (zA M Z.out);clear M Z;have Z:=a3;clear a3;have ff:=D.out.blk.frozen 10;have fb:ba.cell? ⟨jb,10,none⟩=some (zQ (bs [])):=D.out.blk.cell 10;have fc:=D.out.blk.frozen 11;have e9:ba.cell? ⟨jb,11,none⟩=some (zW zX 0):=D.out.blk.cell 11;have fg:=D.out.blk.frozen 12;have e4:ba.cell? ⟨jb,12,none⟩=some (zW zX 0):=D.out.blk.cell 12;have e5:=D.out.blk.frozen 13;have fn:ba.cell? ⟨jb,13,none⟩=some (zQ ⟨#[]⟩):=D.out.blk.cell 13;have lj:=D.out.blk.lt;have a0:aa [jb] ba ((((ba.setCell ⟨jb,10,none⟩ (zQ (bs aA.col))).setCell ⟨jb,11,none⟩ (zW zX aA.val.kind)).setCell ⟨jb,12,none⟩ (zW zX aA.val.num)).setCell ⟨jb,13,none⟩ (zQ (bs aA.val.word))):=((((zN _ _).setCell (.inl (by simp)) _).setCell (.inl (by simp)) _).setCell (.inl (by simp)) _).setCell (.inl (by simp)) _;have HJ':Hid (ar ((((ba.setCell ⟨jb,10,none⟩ (zQ (bs aA.col))).setCell ⟨jb,11,none⟩ (zW zX aA.val.kind)).setCell ⟨jb,12,none⟩ (zW zX aA.val.num)).setCell ⟨jb,13,none⟩ (zQ (bs aA.val.word))) w0.heap.size jb (⟨at_,1,outs,il2,[],a7,⟨a5,zV⟩,aA,A⟩:Jb) v2 bk (zR none 0 0)):=zx (D.out.box a0 (((((D.out.blk.set 10 (zQ (bs aA.col))).set 11 (zW zX aA.val.kind)).set 12 (zW zX aA.val.num)).set 13 (zQ (bs aA.val.word))).congr (by rfl)) rfl rfl rfl);have HP':=zx (J.out.box D.out a0);have HK':=zx (U.out.box bj.out a0);clear a0;have a9:Hid (Rl (am (aM at_ outs A)) l none (⟨at_,1,outs,il2,[],a7,⟨a5,zV⟩,aA,A⟩:Jb) cg b4):=zx (ad.out _ _ _ (Rl.stay (fun _=>rfl)))
   go_wp2;first|go_end0|refine bodyPost_ret (results_none rfl _ _ _) rfl ?_
   exact ⟨rfl,bQ.mk (⟨at_,1,outs,il2,[],a7,⟨a5,zV⟩,aA,A⟩:Jb) _ _ _ cg b4 HJ'.out HP'.out a9.out Z.out HK'.out⟩
theorem vC {l:List Tk} {b jb lo:Nat} {v2:Value} (at_:Int) (outs:List Bs) (A:Int) (w0 w:World) (hE:RB w0 lo) (a1:lo≤b) (h:aE w b l none) (I:aa [b] w0 w) (d0:w0.heap.size≤jb) (hj:ar w w0.heap.size jb (aM at_ outs A) v2 (zR none 0 0) (zR none 0 0)) (d6:l.length≤1000000) (bq:aQ (ax l).text=2) :
  Calls zy 150 #[zS (some ⟨b,0,none⟩),zS (some ⟨jb,0,none⟩)] w fun e w'=>e=zT (.tuple #[])∧bQ (am (aM at_ outs A)) l b jb w0 w':=by
 obtain ⟨i0,hi,e3,f6,f2⟩:=info_parts eF;have bn:=zx hE;have J:=zx h;have U:=zx I;have D:Hid (ar w w0.heap.size jb (⟨at_,0,outs,[],[],[],⟨[],zV⟩,⟨[],zV⟩,A⟩:Jb) v2 (zR none 0 0) (zR none 0 0)):=zx hj;have M:=zx (hE.one a1 I);have bl:=zx d0;have eb:=zx d6;have Z:=zx (zz l.length);have co:ru (ax l):=by obtain ⟨_,_,_,_,_,_,_,_,_,_,_,_,_,_,_,_,hh⟩:=h.open';exact hh
 have el:=zx (fun r hr=>dr co r hr);have dB:=zx bq;have bB:Hid (([]:List Bs).length≤100):=zx (by simp);have ci:=dy co (by rw[bq];decide);have aA:Hid (∀ i l' x',Rl (fun r=>aj r >>= fun p0=>(fun r=>aq [58] r >>= (fun r=>aj r >>= fun p2=>(fun r=>aq [61] r >>= (fun r=>bN r >>= fun p4=>(fun r=>bC [[43],[45],[42]] r >>= fun p5=>(fun r=>bN r >>= fun p6=>(fun r=> .ok ((⟨at_,2,outs,[]++[p0.1],[p2.1],p5.1,p4.1,p6.1,A⟩:Jb),r)) p6.2) p5.2) p4.2)) p2.2)) p0.2) l.tail none i l' x'→Rl (am (aM at_ outs A)) l none i l' x'):=zx (fun i l' x' hq=>Rl.shift (by
  unfold am;rw[bq,if_neg (by rw[ci];decide)];rfl) hq)
 have b1:(ax l).text=[115,101,116]:=aU bq (by decide);have d7:aG [115,101,116] l=true:=by
  unfold aG;rw[ci,b1];rfl
 have ek:=zx d7;have c8:=zx b1;clear hE h I hj d6 d0 bq co ci d7 b1;obtain ⟨mx,d1⟩:=M.out.renv.mlen;have c3:=zx (cB mx w d1);clear d1;go_enter Tryz.func150,Tryz.ntmps150
 go_wp2_with fail
 refine c3.out.mono ?_;rintro ev w1 ⟨rfl,rfl⟩;have b0:=zO w 9 (strs ai).toArray;have a8:aa [] w (w.alloc (zU (strs ai).toArray 9)):=(zN _ _).alloc _;have HP':=zx (J.out.keep a8);have HJ':=zx (D.out.keep a8);have HK':=zx (U.out.trans a8.of_nil);obtain ⟨B,hB⟩:∃ B,w.heap.size=B:=⟨_,rfl⟩
 have f7:Hid (B≠b∧jb≠B):=zx (by have:=J.out.lt;have:=D.out.blk.lt;omega);rw[hB] at b0 ⊢;obtain ⟨w1,c6⟩:∃ z,w.alloc (zU (strs ai).toArray 9)=z:=⟨_,rfl⟩
 rw[c6] at b0 HP' HJ' HK' ⊢;have ba:=zx b0;clear b0 a8 hB c6 J D U M c3;go_wp2_with fail
 go_loopw [8] (fun i wr=>∃ r:Nat,r≤9∧i=zW zX r∧Hid (aE wr b l none)∧Hid (ar wr w0.heap.size jb (⟨at_,(aO 2 r:Nat),outs,[],[],[],⟨[],zV⟩,⟨[],zV⟩,A⟩:Jb) v2 (zR none 0 0) (zR none 0 0))∧Hid (ap wr B 9 (strs ai).toArray)∧Hid (aa [b] w0 wr)) (fun i _=>9-(intOf i).toNat)
 case atStart=>exact ⟨0,zE _,rfl,HP',HJ',ba,HK'⟩
 clear HP' HJ' HK' ba;obtain ⟨r,hr,rfl,J,D,ba,U⟩:=hrel;have M:=zx (bn.out.one a1 U.out);by_cases dq:r<9
 ·have g5:(r:Int)<9:=by omega
  have ct:r<ai.length:=dq;have cv:wr.cell? ⟨B,r,none⟩=some (zQ (bs ai[r])):=by
   rw[ba.out.cell r];simp[strs,zI ct]
  have lb:=ba.out.lt;have hS:=cL ai[r] wr M.out.fine J.out;rw[el.out r ct,dB.out] at hS;obtain ⟨wd,ds⟩:∃ wd,ai[r]=wd:=⟨_,rfl⟩
  rw[ds] at hS cv;clear ds ct;by_cases hc:(2:Nat)=r+1
  ·rw[decide_eq_true hc] at hS
   have HS:=zx hS;have gb:Hid (((r:Int)+1)=(aO 2 (r+1):Nat)):=zx (by rw[dh hc];omega);clear hS hc;go_wp2_with fail
   refine HS.out.mono ?_;rintro ev w2 ⟨ad,I⟩;have hev':ev=zT (.bool true):=ad;subst hev';have b5:=zx (J.out.keep I);have bb:=zx (D.out.keep I);have cf:=zx (ba.out.keep I (by simp));have cj:=zx (U.out.trans I.of_nil);have ha:=bb.out.blk.frozen 1;have bA:w2.cell? ⟨jb,1,none⟩=some (zW zX (aO 2 r:Nat)):=bb.out.blk.cell 1;have lj:=bb.out.blk.lt;clear ad I J D ba U HS cv lb;have a3:aa [jb] w2 (w2.setCell ⟨jb,1,none⟩ (zW zX ((r:Int)+1))):=(zN _ _).setCell (.inl (by simp)) _;have f5:Hid (ar (w2.setCell ⟨jb,1,none⟩ (zW zX ((r:Int)+1))) w0.heap.size jb (⟨at_,(aO 2 (r+1):Nat),outs,[],[],[],⟨[],zV⟩,⟨[],zV⟩,A⟩:Jb) v2 (zR none 0 0) (zR none 0 0)):=zx (bb.out.box a3 ((bb.out.blk.set 1 (zW zX ((r:Int)+1))).congr (by rw[gb.out];rfl)) rfl rfl rfl);have fb:=zx (b5.out.box bb.out a3);have f3:=zx (cj.out.box bl.out a3);have f0:=zx (cf.out.far (p:=⟨jb,1,none⟩) (fun e=>f7.out.2 e.symm) (zW zX ((r:Int)+1)));clear a3;go_wp2;go_roundw
   case rel=>exact ⟨r+1,by omega,by go_num,fb,f5,f0,f3⟩
   case measure=>simp[intOf];omega
  rw[decide_eq_false hc] at hS;have HS:=zx hS;have e4:Hid (aO 2 (r+1)=aO 2 r):=zx (dF hc);clear hS hc;go_wp2_with fail
  refine HS.out.mono ?_;rintro ev w2 ⟨ad,I⟩;have hev':ev=zT (.bool false):=ad;subst hev';have b5:=zx (J.out.keep I);have bb:=zx (D.out.keep I);have cf:=zx (ba.out.keep I (by simp));have cj:=zx (U.out.trans I.of_nil);clear ad I J D ba U HS cv lb;go_wp2;go_roundw
  case rel=>exact ⟨r+1,by omega,by go_num,b5,by rw[e4.out];exact bb,cf,cj⟩
  case measure=>simp[intOf];omega
 obtain rfl:r=9:=by omega
 have HJ':Hid (ar wr w0.heap.size jb (⟨at_,2,outs,[],[],[],⟨[],zV⟩,⟨[],zV⟩,A⟩:Jb) v2 (zR none 0 0) (zR none 0 0)):=zx D.out;clear D ba hr dq;have D:=HJ';clear HJ';have bA:wr.cell? ⟨jb,1,none⟩=some (zW zX 2):=D.out.blk.cell 1;have lj:=D.out.blk.lt;obtain ⟨g,o,c,c0,c1,c2,-,lb,lg,-,hn,hc,fn,k0,k1,k2,-⟩:=J.out.open';rw[c8.out] at k1;have ga:(0:Int)<(l.length:Int):=by omega
 have HC:=zx (aJ [115,101,116] wr M.out.fine (M.out.fne a1) J.out);go_wp2_with fail
 refine HC.out.mono ?_;rintro ev y1 ⟨rfl,⟨q1,x1,hp,hr,O⟩,I⟩;obtain ⟨rfl,rfl⟩:=cI hr ek.out;clear hr c0 c1 c2 lb lg hn hc fn k0 k1 k2 ga bA lj ek c8 el dB;have HJ':=zx (D.out.rd J.out I);have HK':=zx (U.out.trans I);have HE':=zx (M.out.one a1 I);have HP':=zx hp;clear D U M J I hp HC;have D:=HJ';have U:=HK';have M:=HE';have J:=HP';clear HJ' HK' HE' HP';have a0:=zx (zA O Z.out);clear O Z;have Z:=a0;clear a0;obtain ⟨q1,d4⟩:∃ q1,l.tail=q1:=⟨_,rfl⟩
 rw[d4] at J aA Z;clear d4;go_upto_region 9 with (fail)
 have fS:y1.cell? ⟨jb,3,none⟩=some (zR none 0 0)∧y1.frozen? ⟨jb,3,none⟩=false:=⟨D.out.blk.cell 3,D.out.blk.frozen 3⟩;have lj:=D.out.blk.lt;have b6:=zx (show (([]:List Bs)).length+1≤maxLen∧((([]:List Bs)).length+1)*16≤140737488355328 by have:=bB.out;simp only[maxLen,zG,zK] at *;omega);have d3:Hid (jb∉[b]):=zx (by have:=D.out.blk.ty.ne J.out.ty (by decide);simpa using this);have HC:Hid (∀ W,aa [] y1 W→Calls zy 101 #[zS (some ⟨b,0,none⟩)] W fun e w'=>∃ s l' x',e=zT (zQ (bs s))∧aE w' b l' x'∧Rl aj q1 none s l' x'∧s.length≤10∧l'.length≤q1.length∧aa [b] W w'):=zx (fun W z=>aS W (M.out.quiet z).fine (M.out.fne a1) (J.out.keep z));go_cut [] (fun wx=>∃ a2 q2 x2 bm,ar wx w0.heap.size jb (⟨at_,2,outs,[]++[a2],[],[],⟨[],zV⟩,⟨[],zV⟩,A⟩:Jb) v2 bm (zR none 0 0)∧aE wx b q2 x2∧Rl aj q1 none a2 q2 x2∧q2.length≤q1.length∧aa [b] w0 wx)
 case first =>
  go_region_law (first|(refine step_append_lies _ (by rfl) _ _ _ (by rfl) w0.heap.size 9 i0 _ 1 16 Tryz.underlying55 hi e3 f6 f2 rfl (by decide) (zR none 0 0) (([]:List Bs)).length (strs (([]:List Bs))) (by rfl) ((D.out.rd J.out bd.undrew).o3.alloc _) ⟨w6.heap.size,0,none⟩ 1 1 [zQ (bs a2)] (by rfl) rfl (zJ (heap_alloc_new _ _)) (by simp[Value.oneCell']) (by decide) b6.out.1 b6.out.2 (by have:=U.out.size;have:=bd.size;have h9:y1.drew.heap.size=y1.heap.size:=rfl;simp;omega) _ rfl ?_;intro gw hb w7 cg bk en gj;obtain ⟨g7,g6⟩:=az bk (ay ⟨dv,e0⟩ _) (fun e=>(av (D.out.rd J.out bd.undrew).o3 jb e).ne (D.out.rd J.out bd.undrew).blk.ty (by decide) rfl))|(go_simp;go_at_call 101;refine (HC.out _ (zN [] y1).drew).mono ?_;rintro e w6 ⟨a2,q2,x2,rfl,fz,ff,c5,cx,bd⟩;obtain ⟨dv,e0⟩:=aC bd fS d3.out;have g4:jb<w6.heap.size:=zB w6 ⟨jb,3,none⟩ dv))
  all_goals
   go_wp2;go_meet;have hh:=ar.app3r (D.out.rd J.out bd.undrew) fz (U.out.trans bd.undrew) rfl bl.out bk rfl cg en (by simp);exact ⟨a2,q2,x2,_,hh.1,hh.2.1,ff,cx,hh.2.2⟩
 obtain ⟨a2,q2,x2,bm,hj,hp,hr,O,I⟩:=hcut;obtain ⟨y2,rfl⟩:∃ y:World,y=wc:=⟨_,rfl⟩
 clear J D U M HC fS lj b6 d3;have J:=zx hp;have D:=zx hj;have U:=zx I;have M:=zx (bn.out.one a1 I);clear hp hj I;have HIM':Hid (∀ i l' x',Rl (fun r=>aq [58] r >>= (fun r=>aj r >>= fun p2=>(fun r=>aq [61] r >>= (fun r=>bN r >>= fun p4=>(fun r=>bC [[43],[45],[42]] r >>= fun p5=>(fun r=>bN r >>= fun p6=>(fun r=> .ok ((⟨at_,2,outs,[]++[a2],[p2.1],p5.1,p4.1,p6.1,A⟩:Jb),r)) p6.2) p5.2) p4.2)) p2.2)) q2 x2 i l' x'→Rl (am (aM at_ outs A)) l none i l' x'):=zx (fun i l' x' hq=>aA.out i l' x' (Rl.bind (Q:=fun a=>fun r=>aq [58] r >>= (fun r=>aj r >>= fun p2=>(fun r=>aq [61] r >>= (fun r=>bN r >>= fun p4=>(fun r=>bC [[43],[45],[42]] r >>= fun p5=>(fun r=>bN r >>= fun p6=>(fun r=> .ok ((⟨at_,2,outs,[]++[a],[p2.1],p5.1,p4.1,p6.1,A⟩:Jb),r)) p6.2) p5.2) p4.2)) p2.2)) hr hq));clear aA hr;have aA:=HIM';clear HIM';have a0:=zx (zA O Z.out);clear O Z;have Z:=a0;clear a0;have ch:Hid (([]++[a2]).length≤101):=zx (by have:=bB.out;simp only[zF,zG,zK] at *;omega);obtain ⟨il2,em⟩:∃ il,[]++[a2]=il:=⟨_,rfl⟩
 rw[em] at D aA ch;clear em bB;have bB:=ch;clear ch;have bA:y2.cell? ⟨jb,1,none⟩=some (zW zX 2):=D.out.blk.cell 1;have lj:=D.out.blk.lt;have HC:=zx (aJ [58] y2 M.out.fine (M.out.fne a1) J.out);go_wp2_with fail
 refine HC.out.mono ?_;rintro ev y3 ⟨rfl,⟨q3,x3,hp,hr,O⟩,I⟩;have HIM':Hid (∀ i l' x',Rl (fun r=>aj r >>= fun p2=>(fun r=>aq [61] r >>= (fun r=>bN r >>= fun p4=>(fun r=>bC [[43],[45],[42]] r >>= fun p5=>(fun r=>bN r >>= fun p6=>(fun r=> .ok ((⟨at_,2,outs,il2,[p2.1],p5.1,p4.1,p6.1,A⟩:Jb),r)) p6.2) p5.2) p4.2)) p2.2) q3 x3 i l' x'→Rl (am (aM at_ outs A)) l none i l' x'):=zx (fun i l' x' hq=>aA.out i l' x' (Rl.must hr hq));clear aA hr;have aA:=HIM';clear HIM';have HJ':=zx (D.out.rd J.out I);have HK':=zx (U.out.trans I);have HE':=zx (M.out.one a1 I);have HP':=zx hp;clear D U M J I hp HC;have D:=HJ';have U:=HK';have M:=HE';have J:=HP';clear HJ' HK' HE' HP';have a0:=zx (zA O Z.out);clear O Z;have Z:=a0;clear a0;clear bA lj
 cases x3 with
 | some y =>
  have HD:Hid (∀ i l',Rl (am (aM at_ outs A)) l none i l' (some y)):=zx (fun i l'=>aA.out i l' _ rfl);clear aA;have HC:=zx (aN y3 M.out.fine J.out);go_wp2_with fail
  refine HC.out.mono ?_;rintro ev y4 ⟨ad,I⟩;have hev':ev=zT (.bool false):=ad;subst hev';clear ad;have HJ':=zx (D.out.keep I);have HK':=zx (U.out.trans I.of_nil);have HE':=zx (M.out.quiet I);have HP':=zx (J.out.keep I);clear D U M J I HC;have D:=HJ';have U:=HK';have M:=HE';have J:=HP';clear HJ' HK' HE' HP';have HC:=zx (aJ [61] y4 M.out.fine (M.out.fne a1) J.out);go_wp2_with fail
  refine HC.out.mono ?_;rintro ev y5 ⟨rfl,⟨q5,x5,hp,hr,O⟩,I⟩;have ep:=Rl.dead hr;subst ep;clear hr;have HJ':=zx (D.out.rd J.out I);have HK':=zx (U.out.trans I);have HE':=zx (M.out.one a1 I);have HP':=zx hp;clear D U M J I hp HC;have D:=HJ';have U:=HK';have M:=HE';have J:=HP';clear HJ' HK' HE' HP';have a0:=zx (zA O Z.out);clear O Z;have Z:=a0;clear a0;have HC:=zx (aN y5 M.out.fine J.out);go_wp2_with fail
  refine HC.out.mono ?_;rintro ev y6 ⟨ad,I⟩;have hev':ev=zT (.bool false):=ad;subst hev';clear ad;have HJ':=zx (D.out.keep I);have HK':=zx (U.out.trans I.of_nil);have HE':=zx (M.out.quiet I);have HP':=zx (J.out.keep I);clear D U M J I HC;have D:=HJ';have U:=HK';have M:=HE';have J:=HP';clear HJ' HK' HE' HP';have HC:=zx (aN y6 M.out.fine J.out);go_wp2_with fail
  refine HC.out.mono ?_;rintro ev y7 ⟨ad,I⟩;have hev':ev=zT (.bool false):=ad;subst hev';clear ad;have HJ':=zx (D.out.keep I);have HK':=zx (U.out.trans I.of_nil);have HE':=zx (M.out.quiet I);have HP':=zx (J.out.keep I);clear D U M J I HC;have D:=HJ';have U:=HK';have M:=HE';have J:=HP';clear HJ' HK' HE' HP';have a7:Hid (Rl (am (aM at_ outs A)) l none (⟨at_,2,outs,il2,[],[],⟨[],zV⟩,⟨[],zV⟩,A⟩:Jb) q5 (some y)):=zx (HD.out _ _);go_wp2;first|go_end0|refine bodyPost_ret (results_none rfl _ _ _) rfl ?_
  exact ⟨rfl,bQ.mk (⟨at_,2,outs,il2,[],[],⟨[],zV⟩,⟨[],zV⟩,A⟩:Jb) _ _ _ q5 (some y) D.out J.out a7.out Z.out U.out⟩
 | none =>
  have HC:=zx (aN y3 M.out.fine J.out);go_wp2_with fail
  refine HC.out.mono ?_;rintro ev y4 ⟨ad,I⟩;have hev':ev=zT (.bool true):=ad;subst hev';clear ad;have HJ':=zx (D.out.keep I);have HK':=zx (U.out.trans I.of_nil);have HE':=zx (M.out.quiet I);have HP':=zx (J.out.keep I);clear D U M J I HC;have D:=HJ';have U:=HK';have M:=HE';have J:=HP';clear HJ' HK' HE' HP';have HC:=zx (aS y4 M.out.fine (M.out.fne a1) J.out);go_wp2_with fail
  refine HC.out.mono ?_;rintro ev y5 ⟨a5,q5,x5,rfl,hp,hr,hs,O,I⟩;clear hs;have HIM':Hid (∀ i l' x',Rl (fun r=>aq [61] r >>= (fun r=>bN r >>= fun p4=>(fun r=>bC [[43],[45],[42]] r >>= fun p5=>(fun r=>bN r >>= fun p6=>(fun r=> .ok ((⟨at_,2,outs,il2,[a5],p5.1,p4.1,p6.1,A⟩:Jb),r)) p6.2) p5.2) p4.2)) q5 x5 i l' x'→Rl (am (aM at_ outs A)) l none i l' x'):=zx (fun i l' x' hq=>aA.out i l' x' (Rl.bind (Q:=fun a=>fun r=>aq [61] r >>= (fun r=>bN r >>= fun p4=>(fun r=>bC [[43],[45],[42]] r >>= fun p5=>(fun r=>bN r >>= fun p6=>(fun r=> .ok ((⟨at_,2,outs,il2,[a],p5.1,p4.1,p6.1,A⟩:Jb),r)) p6.2) p5.2) p4.2)) hr hq));clear aA hr;have aA:=HIM';clear HIM';have HJ':=zx (D.out.rd J.out I);have HK':=zx (U.out.trans I);have HE':=zx (M.out.one a1 I);have HP':=zx hp;clear D U M J I hp HC;have D:=HJ';have U:=HK';have M:=HE';have J:=HP';clear HJ' HK' HE' HP';have a0:=zx (zA O Z.out);clear O Z;have Z:=a0;clear a0;have fg:=D.out.blk.frozen 4;have gi:y5.cell? ⟨jb,4,none⟩=some ((zR none 0 0)):=D.out.blk.cell 4;have lj:=D.out.blk.lt;have c9:(y5.alloc (zU #[zQ (bs a5)] 9)).ownsRow w0.heap.size 9 1 (zR (some ⟨y5.heap.size,0,none⟩) 1 1) [a5].length (strs [a5]):=gg (zO y5 9 #[zQ (bs a5)]) U.out.size rfl (by decide);have c4:aT (v2) (zR (some ⟨y5.heap.size,0,none⟩) 1 1):=aT.new D.out.o2 (fun g hg=>by simp[Value.ownBlock] at hg;omega);have d2:aT (bm) (zR (some ⟨y5.heap.size,0,none⟩) 1 1):=aT.new D.out.o3 (fun g hg=>by simp[Value.ownBlock] at hg;omega);have a8:aa [] y5 (y5.alloc (zU #[zQ (bs a5)] 9)):=(zN _ _).alloc _;have a3:aa [jb] (y5.alloc (zU #[zQ (bs a5)] 9)) ((y5.alloc (zU #[zQ (bs a5)] 9)).setCell ⟨jb,4,none⟩ (zR (some ⟨y5.heap.size,0,none⟩) 1 1)):=(zN _ _).setCell (.inl (by simp)) _;have hj':=(D.out.keep a8).put4 c9 c4 d2;have hp':=(J.out.keep a8).box (D.out.keep a8) a3;have hk':=aa.box (U.out.trans a8.of_nil) bl.out a3;rw[World.setCell_alloc_past (w:=y5) (zU #[zQ (bs a5)] 9) jb 4 (zR (some ⟨y5.heap.size,0,none⟩) 1 1) lj] at hj' hp' hk';have HJ':=zx hj';have HP':=zx hp';have HK':=zx hk';have HE':=zx (bn.out.one a1 hk')
  clear c9 c4 d2 a8 a3 hj' hp' hk';go_upto_region 23 with (fail)
  obtain ⟨y6,hy⟩:∃ x,((y5.setCell ⟨jb,4,none⟩ (zR (some ⟨y5.heap.size,0,none⟩) 1 1)).alloc (zU #[zQ (bs a5)] 9))=x:=⟨_,rfl⟩
  rw[hy] at HJ' HP' HK' HE' ⊢;obtain ⟨c5,b4⟩:∃ n,y5.heap.size=n:=⟨_,rfl⟩
  rw[b4] at HJ';try rw[b4]
  clear hy b4 fg gi lj D J U M;have D:=HJ';have J:=HP';have U:=HK';have M:=HE';clear HJ' HP' HK' HE';obtain ⟨b7,d8⟩:∃ v,Value.slice (some ⟨c5,0,none⟩) 1 1=v:=⟨_,rfl⟩
  rw[d8] at D;clear d8;have HC:=zx (aJ [61] y6 M.out.fine (M.out.fne a1) J.out);go_wp2_with fail
  refine HC.out.mono ?_;rintro ev y7 ⟨rfl,⟨q7,x7,hp,hr,O⟩,I⟩;have HIM':Hid (∀ i l' x',Rl (fun r=>bN r >>= fun p4=>(fun r=>bC [[43],[45],[42]] r >>= fun p5=>(fun r=>bN r >>= fun p6=>(fun r=> .ok ((⟨at_,2,outs,il2,[a5],p5.1,p4.1,p6.1,A⟩:Jb),r)) p6.2) p5.2) p4.2) q7 x7 i l' x'→Rl (am (aM at_ outs A)) l none i l' x'):=zx (fun i l' x' hq=>aA.out i l' x' (Rl.must hr hq));clear aA hr;have aA:=HIM';clear HIM';have HJ':=zx (D.out.rd J.out I);have HK':=zx (U.out.trans I);have HE':=zx (M.out.one a1 I);have HP':=zx hp;clear D U M J I hp HC;have D:=HJ';have U:=HK';have M:=HE';have J:=HP';clear HJ' HK' HE' HP';have a0:=zx (zA O Z.out);clear O Z;have Z:=a0;clear a0
  cases x7 with
  | some y =>
   have HD:Hid (∀ i l',Rl (am (aM at_ outs A)) l none i l' (some y)):=zx (fun i l'=>aA.out i l' _ rfl);clear aA;have HC:=zx (aN y7 M.out.fine J.out);go_wp2_with fail
   refine HC.out.mono ?_;rintro ev y8 ⟨ad,I⟩;have hev':ev=zT (.bool false):=ad;subst hev';clear ad;have HJ':=zx (D.out.keep I);have HK':=zx (U.out.trans I.of_nil);have HE':=zx (M.out.quiet I);have HP':=zx (J.out.keep I);clear D U M J I HC;have D:=HJ';have U:=HK';have M:=HE';have J:=HP';clear HJ' HK' HE' HP';have HC:=zx (aN y8 M.out.fine J.out);go_wp2_with fail
   refine HC.out.mono ?_;rintro ev y9 ⟨ad,I⟩;have hev':ev=zT (.bool false):=ad;subst hev';clear ad;have HJ':=zx (D.out.keep I);have HK':=zx (U.out.trans I.of_nil);have HE':=zx (M.out.quiet I);have HP':=zx (J.out.keep I);clear D U M J I HC;have D:=HJ';have U:=HK';have M:=HE';have J:=HP';clear HJ' HK' HE' HP';have a7:Hid (Rl (am (aM at_ outs A)) l none (⟨at_,2,outs,il2,[a5],[],⟨[],zV⟩,⟨[],zV⟩,A⟩:Jb) q7 (some y)):=zx (HD.out _ _);go_wp2;first|go_end0|refine bodyPost_ret (results_none rfl _ _ _) rfl ?_
   exact ⟨rfl,bQ.mk (⟨at_,2,outs,il2,[a5],[],⟨[],zV⟩,⟨[],zV⟩,A⟩:Jb) _ _ _ q7 (some y) D.out J.out a7.out Z.out U.out⟩
  | none =>
   have HC:=zx (aN y7 M.out.fine J.out);go_wp2_with fail
   refine HC.out.mono ?_;rintro ev y8 ⟨ad,I⟩;have hev':ev=zT (.bool true):=ad;subst hev';clear ad;have HJ':=zx (D.out.keep I);have HK':=zx (U.out.trans I.of_nil);have HE':=zx (M.out.quiet I);have HP':=zx (J.out.keep I);clear D U M J I HC;have D:=HJ';have U:=HK';have M:=HE';have J:=HP';clear HJ' HK' HE' HP';have HC:=zx (jk y8 M.out a1 J.out (zA Z.out eb.out));go_wp2_with fail
   refine HC.out.mono ?_;rintro ev y9 ⟨a9,q9,x9,he,hp,hr,O,I⟩;have cq:ev=zT (.agg #[zQ (bs a9.col),zW zX a9.val.kind,zW zX a9.val.num,zQ (bs a9.val.word)]):=he;subst cq;clear he;have HIM':Hid (∀ i l' x',Rl (fun r=>bC [[43],[45],[42]] r >>= fun p5=>(fun r=>bN r >>= fun p6=>(fun r=> .ok ((⟨at_,2,outs,il2,[a5],p5.1,a9,p6.1,A⟩:Jb),r)) p6.2) p5.2) q9 x9 i l' x'→Rl (am (aM at_ outs A)) l none i l' x'):=zx (fun i l' x' hq=>aA.out i l' x' (Rl.bind (Q:=fun a=>fun r=>bC [[43],[45],[42]] r >>= fun p5=>(fun r=>bN r >>= fun p6=>(fun r=> .ok ((⟨at_,2,outs,il2,[a5],p5.1,a,p6.1,A⟩:Jb),r)) p6.2) p5.2) hr hq));clear aA hr;have aA:=HIM';clear HIM';have HJ':=zx (D.out.rd J.out I);have HK':=zx (U.out.trans I);have HE':=zx (M.out.one a1 I);have HP':=zx hp;clear D U M J I hp HC;have D:=HJ';have U:=HK';have M:=HE';have J:=HP';clear HJ' HK' HE' HP';have a0:=zx (zA O Z.out);clear O Z;have Z:=a0;clear a0;have e9:=D.out.blk.frozen 6;have f1:y9.cell? ⟨jb,6,none⟩=some (zQ (bs [])):=D.out.blk.cell 6;have ft:=D.out.blk.frozen 7;have et:y9.cell? ⟨jb,7,none⟩=some (zW zX 0):=D.out.blk.cell 7;have fv:=D.out.blk.frozen 8;have fc:y9.cell? ⟨jb,8,none⟩=some (zW zX 0):=D.out.blk.cell 8;have fu:=D.out.blk.frozen 9;have e5:y9.cell? ⟨jb,9,none⟩=some (zQ ⟨#[]⟩):=D.out.blk.cell 9;have lj:=D.out.blk.lt;have a3:aa [jb] y9 ((((y9.setCell ⟨jb,6,none⟩ (zQ (bs a9.col))).setCell ⟨jb,7,none⟩ (zW zX a9.val.kind)).setCell ⟨jb,8,none⟩ (zW zX a9.val.num)).setCell ⟨jb,9,none⟩ (zQ (bs a9.val.word))):=((((zN _ _).setCell (.inl (by simp)) _).setCell (.inl (by simp)) _).setCell (.inl (by simp)) _).setCell (.inl (by simp)) _;have HJ':Hid (ar ((((y9.setCell ⟨jb,6,none⟩ (zQ (bs a9.col))).setCell ⟨jb,7,none⟩ (zW zX a9.val.kind)).setCell ⟨jb,8,none⟩ (zW zX a9.val.num)).setCell ⟨jb,9,none⟩ (zQ (bs a9.val.word))) w0.heap.size jb (⟨at_,2,outs,il2,[a5],[],a9,⟨[],zV⟩,A⟩:Jb) v2 bm b7):=zx (D.out.box a3 (((((D.out.blk.set 6 (zQ (bs a9.col))).set 7 (zW zX a9.val.kind)).set 8 (zW zX a9.val.num)).set 9 (zQ (bs a9.val.word))).congr (by rfl)) rfl rfl rfl)
   have HP':=zx (J.out.box D.out a3);have HK':=zx (U.out.box bl.out a3);have HE':=zx (bn.out.one a1 HK'.out);clear a3;go_upto_region 26 with (fail)
   obtain ⟨es,hy⟩:∃ x,((((y9.setCell ⟨jb,6,none⟩ (zQ (bs a9.col))).setCell ⟨jb,7,none⟩ (zW zX a9.val.kind)).setCell ⟨jb,8,none⟩ (zW zX a9.val.num)).setCell ⟨jb,9,none⟩ (zQ (bs a9.val.word)))=x:=⟨_,rfl⟩
   rw[hy] at HJ' HP' HK' HE' ⊢;clear hy e9 f1 ft et fv fc fu e5 lj D J U M;have D:=HJ';have J:=HP';have U:=HK';have M:=HE';clear HJ' HP' HK' HE';have HC:=zx (fY [43,32,45,32,42] [[43],[45],[42]] (by decide) (by decide) (by decide) (by decide) es M.out.renv (M.out.fne a1) (M.out.mne a1) J.out);go_wp2_with fail
   refine HC.out.mono ?_;rintro ev bo ⟨a6,cp,d5,rfl,hp,hr,hs,O,I⟩;clear hs;have HIM':Hid (∀ i l' x',Rl (fun r=>bN r >>= fun p6=>(fun r=> .ok ((⟨at_,2,outs,il2,[a5],a6,a9,p6.1,A⟩:Jb),r)) p6.2) cp d5 i l' x'→Rl (am (aM at_ outs A)) l none i l' x'):=zx (fun i l' x' hq=>aA.out i l' x' (Rl.bind (Q:=fun a=>fun r=>bN r >>= fun p6=>(fun r=> .ok ((⟨at_,2,outs,il2,[a5],a,a9,p6.1,A⟩:Jb),r)) p6.2) hr hq));clear aA hr;have aA:=HIM';clear HIM';have HJ':=zx (D.out.rd J.out I);have HK':=zx (U.out.trans I);have HE':=zx (M.out.one a1 I);have HP':=zx hp;clear D U M J I hp HC;have D:=HJ';have U:=HK';have M:=HE';have J:=HP';clear HJ' HK' HE' HP';have a0:=zx (zA O Z.out);clear O Z;have Z:=a0;clear a0;have er:=D.out.blk.frozen 5;have ez:bo.cell? ⟨jb,5,none⟩=some (zQ (bs [])):=D.out.blk.cell 5;have lj:=D.out.blk.lt;have a3:aa [jb] bo (bo.setCell ⟨jb,5,none⟩ (zQ (bs a6))):=(zN _ _).setCell (.inl (by simp)) _;have HJ':Hid (ar (bo.setCell ⟨jb,5,none⟩ (zQ (bs a6))) w0.heap.size jb (⟨at_,2,outs,il2,[a5],a6,a9,⟨[],zV⟩,A⟩:Jb) v2 bm b7):=zx (D.out.box a3 ((D.out.blk.set 5 (zQ (bs a6))).congr (by rfl)) rfl rfl rfl);have HP':=zx (J.out.box D.out a3);have HK':=zx (U.out.box bl.out a3);have HE':=zx (bn.out.one a1 HK'.out);clear a3;go_upto_region 27 with (fail)
   obtain ⟨c7,hy⟩:∃ x,(bo.setCell ⟨jb,5,none⟩ (zQ (bs a6)))=x:=⟨_,rfl⟩
   rw[hy] at HJ' HP' HK' HE' ⊢;clear hy er ez lj D J U M;have D:=HJ';have J:=HP';have U:=HK';have M:=HE';clear HJ' HP' HK' HE'
   cases d5 with
   | some y =>
    have HD:Hid (∀ i l',Rl (am (aM at_ outs A)) l none i l' (some y)):=zx (fun i l'=>aA.out i l' _ rfl);clear aA;have HC:=zx (aN c7 M.out.fine J.out);go_wp2_with fail
    refine HC.out.mono ?_;rintro ev d9 ⟨ad,I⟩;have hev':ev=zT (.bool false):=ad;subst hev';clear ad;have HJ':=zx (D.out.keep I);have HK':=zx (U.out.trans I.of_nil);have HE':=zx (M.out.quiet I);have HP':=zx (J.out.keep I);clear D U M J I HC;have D:=HJ';have U:=HK';have M:=HE';have J:=HP';clear HJ' HK' HE' HP';have a7:Hid (Rl (am (aM at_ outs A)) l none (⟨at_,2,outs,il2,[a5],a6,a9,⟨[],zV⟩,A⟩:Jb) cp (some y)):=zx (HD.out _ _);go_wp2;first|go_end0|refine bodyPost_ret (results_none rfl _ _ _) rfl ?_
    exact ⟨rfl,bQ.mk (⟨at_,2,outs,il2,[a5],a6,a9,⟨[],zV⟩,A⟩:Jb) _ _ _ cp (some y) D.out J.out a7.out Z.out U.out⟩
   | none =>
    have HC:=zx (aN c7 M.out.fine J.out);go_wp2_with fail
    refine HC.out.mono ?_;rintro ev d9 ⟨ad,I⟩;have hev':ev=zT (.bool true):=ad;subst hev';clear ad;have HJ':=zx (D.out.keep I);have HK':=zx (U.out.trans I.of_nil);have HE':=zx (M.out.quiet I);have HP':=zx (J.out.keep I);clear D U M J I HC;have D:=HJ';have U:=HK';have M:=HE';have J:=HP';clear HJ' HK' HE' HP';have HC:=zx (jk d9 M.out a1 J.out (zA Z.out eb.out));go_wp2_with fail
    refine HC.out.mono ?_;rintro ev bj ⟨a4,b3,cu,he,hp,hr,O,I⟩;have cq:ev=zT (.agg #[zQ (bs a4.col),zW zX a4.val.kind,zW zX a4.val.num,zQ (bs a4.val.word)]):=he;subst cq;clear he;have HIM':Hid (∀ i l' x',Rl (fun r=> .ok ((⟨at_,2,outs,il2,[a5],a6,a9,a4,A⟩:Jb),r)) b3 cu i l' x'→Rl (am (aM at_ outs A)) l none i l' x'):=zx (fun i l' x' hq=>aA.out i l' x' (Rl.bind (Q:=fun a=>fun r=> .ok ((⟨at_,2,outs,il2,[a5],a6,a9,a,A⟩:Jb),r)) hr hq));clear aA hr;have aA:=HIM';clear HIM';have HJ':=zx (D.out.rd J.out I);have HK':=zx (U.out.trans I);have HE':=zx (M.out.one a1 I);have HP':=zx hp;clear D U M J I hp HC;have D:=HJ';have U:=HK';have M:=HE';have J:=HP';clear HJ' HK' HE' HP';have a0:=zx (zA O Z.out);clear O Z;have Z:=a0;clear a0;have g1:=D.out.blk.frozen 10;have gs:bj.cell? ⟨jb,10,none⟩=some (zQ (bs [])):=D.out.blk.cell 10;have g0:=D.out.blk.frozen 11;have gm:bj.cell? ⟨jb,11,none⟩=some (zW zX 0):=D.out.blk.cell 11;have g2:=D.out.blk.frozen 12;have gk:bj.cell? ⟨jb,12,none⟩=some (zW zX 0):=D.out.blk.cell 12;have gl:=D.out.blk.frozen 13;have g3:bj.cell? ⟨jb,13,none⟩=some (zQ ⟨#[]⟩):=D.out.blk.cell 13;have lj:=D.out.blk.lt;have a3:aa [jb] bj ((((bj.setCell ⟨jb,10,none⟩ (zQ (bs a4.col))).setCell ⟨jb,11,none⟩ (zW zX a4.val.kind)).setCell ⟨jb,12,none⟩ (zW zX a4.val.num)).setCell ⟨jb,13,none⟩ (zQ (bs a4.val.word))):=((((zN _ _).setCell (.inl (by simp)) _).setCell (.inl (by simp)) _).setCell (.inl (by simp)) _).setCell (.inl (by simp)) _;have HJ':Hid (ar ((((bj.setCell ⟨jb,10,none⟩ (zQ (bs a4.col))).setCell ⟨jb,11,none⟩ (zW zX a4.val.kind)).setCell ⟨jb,12,none⟩ (zW zX a4.val.num)).setCell ⟨jb,13,none⟩ (zQ (bs a4.val.word))) w0.heap.size jb (⟨at_,2,outs,il2,[a5],a6,a9,a4,A⟩:Jb) v2 bm b7):=zx (D.out.box a3 (((((D.out.blk.set 10 (zQ (bs a4.col))).set 11 (zW zX a4.val.kind)).set 12 (zW zX a4.val.num)).set 13 (zQ (bs a4.val.word))).congr (by rfl)) rfl rfl rfl);have HP':=zx (J.out.box D.out a3);have HK':=zx (U.out.box bl.out a3);clear a3;have a7:Hid (Rl (am (aM at_ outs A)) l none (⟨at_,2,outs,il2,[a5],a6,a9,a4,A⟩:Jb) b3 cu):=zx (aA.out _ _ _ (Rl.stay (fun _=>rfl)))
    go_wp2;first|go_end0|refine bodyPost_ret (results_none rfl _ _ _) rfl ?_
    exact ⟨rfl,bQ.mk (⟨at_,2,outs,il2,[a5],a6,a9,a4,A⟩:Jb) _ _ _ b3 cu HJ'.out HP'.out a7.out Z.out HK'.out⟩
theorem vD {l:List Tk} {b jb lo:Nat} {v2:Value} (at_:Int) (outs:List Bs) (A:Int) (w0 w:World) (hE:RB w0 lo) (aA:lo≤b) (h:aE w b l none) (I:aa [b] w0 w) (cv:w0.heap.size≤jb) (hj:ar w w0.heap.size jb (aM at_ outs A) v2 (zR none 0 0) (zR none 0 0)) (c6:l.length≤1000000) (bb:aQ (ax l).text=3) :
  Calls zy 150 #[zS (some ⟨b,0,none⟩),zS (some ⟨jb,0,none⟩)] w fun e w'=>e=zT (.tuple #[])∧bQ (am (aM at_ outs A)) l b jb w0 w':=by
 obtain ⟨i0,hi,d0,en,eb⟩:=info_parts eF;have bq:=zx hE;have J:=zx h;have Z:=zx I;have D:Hid (ar w w0.heap.size jb (⟨at_,0,outs,[],[],[],⟨[],zV⟩,⟨[],zV⟩,A⟩:Jb) v2 (zR none 0 0) (zR none 0 0)):=zx hj;have U:=zx (hE.one aA I);have bn:=zx cv;have el:=zx c6;have O:=zx (zz l.length);have b6:ru (ax l):=by obtain ⟨_,_,_,_,_,_,_,_,_,_,_,_,_,_,_,_,hh⟩:=h.open';exact hh
 have c9:=zx (fun r hr=>dr b6 r hr);have cu:=zx bb;have bk:Hid (([]:List Bs).length≤100):=zx (by simp);have b4:=dy b6 (by rw[bb];decide);have ad:Hid (∀ i l' x',Rl (fun r=>aj r >>= fun p0=>(fun r=>aq [98,121] r >>= (fun r=>bR r >>= fun p2=>(fun r=> .ok ((⟨at_,3,outs,[]++[p0.1],p2.1,[],⟨[],zV⟩,⟨[],zV⟩,A⟩:Jb),r)) p2.2)) p0.2) l.tail none i l' x'→Rl (am (aM at_ outs A)) l none i l' x'):=zx (fun i l' x' hq=>Rl.shift (by
  unfold am;rw[bb,if_neg (by rw[b4];decide)];rfl) hq)
 have bm:(ax l).text=[112,114,111,106,101,99,116]:=aU bb (by decide);have c7:aG [112,114,111,106,101,99,116] l=true:=by
  unfold aG;rw[b4,bm];rfl
 have c8:=zx c7;have co:=zx bm;clear hE h I hj c6 cv bb b6 b4 c7 bm;obtain ⟨mx,cx⟩:=U.out.renv.mlen;have ch:=zx (cB mx w cx);clear cx;go_enter Tryz.func150,Tryz.ntmps150
 go_wp2_with fail
 refine ch.out.mono ?_;rintro ev w1 ⟨rfl,rfl⟩;have bl:=zO w 9 (strs ai).toArray;have bd:aa [] w (w.alloc (zU (strs ai).toArray 9)):=(zN _ _).alloc _;have HP':=zx (J.out.keep bd);have HJ':=zx (D.out.keep bd);have HK':=zx (Z.out.trans bd.of_nil);obtain ⟨B,hB⟩:∃ B,w.heap.size=B:=⟨_,rfl⟩
 have ep:Hid (B≠b∧jb≠B):=zx (by have:=J.out.lt;have:=D.out.blk.lt;omega);rw[hB] at bl ⊢;obtain ⟨w1,ci⟩:∃ z,w.alloc (zU (strs ai).toArray 9)=z:=⟨_,rfl⟩
 rw[ci] at bl HP' HJ' HK' ⊢;have a3:=zx bl;clear bl bd hB ci J D Z U ch;go_wp2_with fail
 go_loopw [8] (fun i wr=>∃ r:Nat,r≤9∧i=zW zX r∧Hid (aE wr b l none)∧Hid (ar wr w0.heap.size jb (⟨at_,(aO 3 r:Nat),outs,[],[],[],⟨[],zV⟩,⟨[],zV⟩,A⟩:Jb) v2 (zR none 0 0) (zR none 0 0))∧Hid (ap wr B 9 (strs ai).toArray)∧Hid (aa [b] w0 wr)) (fun i _=>9-(intOf i).toNat)
 case atStart=>exact ⟨0,zE _,rfl,HP',HJ',a3,HK'⟩
 clear HP' HJ' HK' a3;obtain ⟨r,hr,rfl,J,D,a3,Z⟩:=hrel;have U:=zx (bq.out.one aA Z.out);by_cases cp:r<9
 ·have e3:(r:Int)<9:=by omega
  have b7:r<ai.length:=cp;have cf:wr.cell? ⟨B,r,none⟩=some (zQ (bs ai[r])):=by
   rw[a3.out.cell r];simp[strs,zI b7]
  have lb:=a3.out.lt;have hS:=cL ai[r] wr U.out.fine J.out;rw[c9.out r b7,cu.out] at hS;obtain ⟨wd,cq⟩:∃ wd,ai[r]=wd:=⟨_,rfl⟩
  rw[cq] at hS cf;clear cq b7;by_cases hc:(3:Nat)=r+1
  ·rw[decide_eq_true hc] at hS
   have HS:=zx hS;have es:Hid (((r:Int)+1)=(aO 3 (r+1):Nat)):=zx (by rw[dh hc];omega);clear hS hc;go_wp2_with fail
   refine HS.out.mono ?_;rintro ev w2 ⟨a1,I⟩;have hev':ev=zT (.bool true):=a1;subst hev';have bo:=zx (J.out.keep I);have a6:=zx (D.out.keep I);have b0:=zx (a3.out.keep I (by simp));have b5:=zx (Z.out.trans I.of_nil);have fb:=a6.out.blk.frozen 1;have bj:w2.cell? ⟨jb,1,none⟩=some (zW zX (aO 3 r:Nat)):=a6.out.blk.cell 1;have lj:=a6.out.blk.lt;clear a1 I J D a3 Z HS cf lb;have a4:aa [jb] w2 (w2.setCell ⟨jb,1,none⟩ (zW zX ((r:Int)+1))):=(zN _ _).setCell (.inl (by simp)) _;have em:Hid (ar (w2.setCell ⟨jb,1,none⟩ (zW zX ((r:Int)+1))) w0.heap.size jb (⟨at_,(aO 3 (r+1):Nat),outs,[],[],[],⟨[],zV⟩,⟨[],zV⟩,A⟩:Jb) v2 (zR none 0 0) (zR none 0 0)):=zx (a6.out.box a4 ((a6.out.blk.set 1 (zW zX ((r:Int)+1))).congr (by rw[es.out];rfl)) rfl rfl rfl);have d2:=zx (bo.out.box a6.out a4);have ek:=zx (b5.out.box bn.out a4);have d9:=zx (b0.out.far (p:=⟨jb,1,none⟩) (fun e=>ep.out.2 e.symm) (zW zX ((r:Int)+1)));clear a4;go_wp2;go_roundw
   case rel=>exact ⟨r+1,by omega,by go_num,d2,em,d9,ek⟩
   case measure=>simp[intOf];omega
  rw[decide_eq_false hc] at hS;have HS:=zx hS;have d1:Hid (aO 3 (r+1)=aO 3 r):=zx (dF hc);clear hS hc;go_wp2_with fail
  refine HS.out.mono ?_;rintro ev w2 ⟨a1,I⟩;have hev':ev=zT (.bool false):=a1;subst hev';have bo:=zx (J.out.keep I);have a6:=zx (D.out.keep I);have b0:=zx (a3.out.keep I (by simp));have b5:=zx (Z.out.trans I.of_nil);clear a1 I J D a3 Z HS cf lb;go_wp2;go_roundw
  case rel=>exact ⟨r+1,by omega,by go_num,bo,by rw[d1.out];exact a6,b0,b5⟩
  case measure=>simp[intOf];omega
 obtain rfl:r=9:=by omega
 have HJ':Hid (ar wr w0.heap.size jb (⟨at_,3,outs,[],[],[],⟨[],zV⟩,⟨[],zV⟩,A⟩:Jb) v2 (zR none 0 0) (zR none 0 0)):=zx D.out;clear D a3 hr cp;have D:=HJ';clear HJ';have bj:wr.cell? ⟨jb,1,none⟩=some (zW zX 3):=D.out.blk.cell 1;have lj:=D.out.blk.lt;obtain ⟨g,o,c,c0,c1,c2,-,lb,lg,-,hn,hc,d4,k0,k1,k2,-⟩:=J.out.open';rw[co.out] at k1;have er:(0:Int)<(l.length:Int):=by omega
 have HC:=zx (aJ [112,114,111,106,101,99,116] wr U.out.fine (U.out.fne aA) J.out);go_wp2_with fail
 refine HC.out.mono ?_;rintro ev y1 ⟨rfl,⟨q1,x1,hp,hr,M⟩,I⟩;obtain ⟨rfl,rfl⟩:=cI hr c8.out;clear hr c0 c1 c2 lb lg hn hc d4 k0 k1 k2 er bj lj c8 co c9 cu;have HJ':=zx (D.out.rd J.out I);have HK':=zx (Z.out.trans I);have HE':=zx (U.out.one aA I);have HP':=zx hp;clear D Z U J I hp HC;have D:=HJ';have Z:=HK';have U:=HE';have J:=HP';clear HJ' HK' HE' HP';have a0:=zx (zA M O.out);clear M O;have O:=a0;clear a0;obtain ⟨q1,c4⟩:∃ q1,l.tail=q1:=⟨_,rfl⟩
 rw[c4] at J ad O;clear c4;go_upto_region 9 with (fail)
 have fS:y1.cell? ⟨jb,3,none⟩=some (zR none 0 0)∧y1.frozen? ⟨jb,3,none⟩=false:=⟨D.out.blk.cell 3,D.out.blk.frozen 3⟩;have lj:=D.out.blk.lt;have bA:=zx (show (([]:List Bs)).length+1≤maxLen∧((([]:List Bs)).length+1)*16≤140737488355328 by have:=bk.out;simp only[maxLen,zG,zK] at *;omega);have c3:Hid (jb∉[b]):=zx (by have:=D.out.blk.ty.ne J.out.ty (by decide);simpa using this);have HC:Hid (∀ W,aa [] y1 W→Calls zy 101 #[zS (some ⟨b,0,none⟩)] W fun e w'=>∃ s l' x',e=zT (zQ (bs s))∧aE w' b l' x'∧Rl aj q1 none s l' x'∧s.length≤10∧l'.length≤q1.length∧aa [b] W w'):=zx (fun W z=>aS W (U.out.quiet z).fine (U.out.fne aA) (J.out.keep z));go_cut [] (fun wx=>∃ a2 q2 x2 bB,ar wx w0.heap.size jb (⟨at_,3,outs,[]++[a2],[],[],⟨[],zV⟩,⟨[],zV⟩,A⟩:Jb) v2 bB (zR none 0 0)∧aE wx b q2 x2∧Rl aj q1 none a2 q2 x2∧q2.length≤q1.length∧aa [b] w0 wx)
 case first =>
  go_region_law (first|(refine step_append_lies _ (by rfl) _ _ _ (by rfl) w0.heap.size 9 i0 _ 1 16 Tryz.underlying55 hi d0 en eb rfl (by decide) (zR none 0 0) (([]:List Bs)).length (strs (([]:List Bs))) (by rfl) ((D.out.rd J.out a7.undrew).o3.alloc _) ⟨w6.heap.size,0,none⟩ 1 1 [zQ (bs a2)] (by rfl) rfl (zJ (heap_alloc_new _ _)) (by simp[Value.oneCell']) (by decide) bA.out.1 bA.out.2 (by have:=Z.out.size;have:=a7.size;have h9:y1.drew.heap.size=y1.heap.size:=rfl;simp;omega) _ rfl ?_;intro gw fc w7 b1 a8 ds et;obtain ⟨e9,e5⟩:=az a8 (ay ⟨ct,dB⟩ _) (fun e=>(av (D.out.rd J.out a7.undrew).o3 jb e).ne (D.out.rd J.out a7.undrew).blk.ty (by decide) rfl))|(go_simp;go_at_call 101;refine (HC.out _ (zN [] y1).drew).mono ?_;rintro e w6 ⟨a2,q2,x2,rfl,d8,d3,e0,cg,a7⟩;obtain ⟨ct,dB⟩:=aC a7 fS c3.out;have ez:jb<w6.heap.size:=zB w6 ⟨jb,3,none⟩ ct))
  all_goals
   go_wp2;go_meet;have hh:=ar.app3r (D.out.rd J.out a7.undrew) d8 (Z.out.trans a7.undrew) rfl bn.out a8 rfl b1 ds (by simp);exact ⟨a2,q2,x2,_,hh.1,hh.2.1,d3,cg,hh.2.2⟩
 obtain ⟨a2,q2,x2,bB,hj,hp,hr,M,I⟩:=hcut;obtain ⟨y2,rfl⟩:∃ y:World,y=wc:=⟨_,rfl⟩
 clear J D Z U HC fS lj bA c3;have J:=zx hp;have D:=zx hj;have Z:=zx I;have U:=zx (bq.out.one aA I);clear hp hj I;have HIM':Hid (∀ i l' x',Rl (fun r=>aq [98,121] r >>= (fun r=>bR r >>= fun p2=>(fun r=> .ok ((⟨at_,3,outs,[]++[a2],p2.1,[],⟨[],zV⟩,⟨[],zV⟩,A⟩:Jb),r)) p2.2)) q2 x2 i l' x'→Rl (am (aM at_ outs A)) l none i l' x'):=zx (fun i l' x' hq=>ad.out i l' x' (Rl.bind (Q:=fun a=>fun r=>aq [98,121] r >>= (fun r=>bR r >>= fun p2=>(fun r=> .ok ((⟨at_,3,outs,[]++[a],p2.1,[],⟨[],zV⟩,⟨[],zV⟩,A⟩:Jb),r)) p2.2)) hr hq));clear ad hr;have ad:=HIM';clear HIM';have a0:=zx (zA M O.out);clear M O;have O:=a0;clear a0;have b3:Hid (([]++[a2]).length≤101):=zx (by have:=bk.out;simp only[zF,zG,zK] at *;omega);obtain ⟨il2,dq⟩:∃ il,[]++[a2]=il:=⟨_,rfl⟩
 rw[dq] at D ad b3;clear dq bk;have bk:=b3;clear b3;have bj:y2.cell? ⟨jb,1,none⟩=some (zW zX 3):=D.out.blk.cell 1;have lj:=D.out.blk.lt;have HC:=zx (aJ [98,121] y2 U.out.fine (U.out.fne aA) J.out);go_wp2_with fail
 refine HC.out.mono ?_;rintro ev y3 ⟨rfl,⟨q3,x3,hp,hr,M⟩,I⟩;have HIM':Hid (∀ i l' x',Rl (fun r=>bR r >>= fun p2=>(fun r=> .ok ((⟨at_,3,outs,il2,p2.1,[],⟨[],zV⟩,⟨[],zV⟩,A⟩:Jb),r)) p2.2) q3 x3 i l' x'→Rl (am (aM at_ outs A)) l none i l' x'):=zx (fun i l' x' hq=>ad.out i l' x' (Rl.must hr hq));clear ad hr;have ad:=HIM';clear HIM';have HJ':=zx (D.out.rd J.out I);have HK':=zx (Z.out.trans I);have HE':=zx (U.out.one aA I);have HP':=zx hp;clear D Z U J I hp HC;have D:=HJ';have Z:=HK';have U:=HE';have J:=HP';clear HJ' HK' HE' HP';have a0:=zx (zA M O.out);clear M O;have O:=a0;clear a0;clear bj lj
 cases x3 with
 | some y =>
  have HD:Hid (∀ i l',Rl (am (aM at_ outs A)) l none i l' (some y)):=zx (fun i l'=>ad.out i l' _ rfl);clear ad;have HC:=zx (aN y3 U.out.fine J.out);go_wp2_with fail
  refine HC.out.mono ?_;rintro ev y4 ⟨a1,I⟩;have hev':ev=zT (.bool false):=a1;subst hev';clear a1;have HJ':=zx (D.out.keep I);have HK':=zx (Z.out.trans I.of_nil);have HE':=zx (U.out.quiet I);have HP':=zx (J.out.keep I);clear D Z U J I HC;have D:=HJ';have Z:=HK';have U:=HE';have J:=HP';clear HJ' HK' HE' HP';have ba:Hid (Rl (am (aM at_ outs A)) l none (⟨at_,3,outs,il2,[],[],⟨[],zV⟩,⟨[],zV⟩,A⟩:Jb) q3 (some y)):=zx (HD.out _ _);go_wp2;first|go_end0|refine bodyPost_ret (results_none rfl _ _ _) rfl ?_
  exact ⟨rfl,bQ.mk (⟨at_,3,outs,il2,[],[],⟨[],zV⟩,⟨[],zV⟩,A⟩:Jb) _ _ _ q3 (some y) D.out J.out ba.out O.out Z.out⟩
 | none =>
  have HC:=zx (aN y3 U.out.fine J.out);go_wp2_with fail
  refine HC.out.mono ?_;rintro ev y4 ⟨a1,I⟩;have hev':ev=zT (.bool true):=a1;subst hev';clear a1;have HJ':=zx (D.out.keep I);have HK':=zx (Z.out.trans I.of_nil);have HE':=zx (U.out.quiet I);have HP':=zx (J.out.keep I);clear D Z U J I HC;have D:=HJ';have Z:=HK';have U:=HE';have J:=HP';clear HJ' HK' HE' HP';have HC:=zx (jI y4 U.out.fine (Nat.lt_of_lt_of_le U.out.flt aA) J.out (zA O.out el.out));go_wp2_with fail
  refine HC.out.mono ?_;rintro ev y5 ⟨a5,v5,q5,x5,rfl,a9,hp,hr,hs,M,I⟩;clear hs;obtain ⟨A5,c5,hv,-⟩:=ao a9;subst hv;have dv:=zx a9;have d6:=zx Z.out.size;have d5:Hid (aT v2 (zR A5 a5.length c5)):=zx (aT.new D.out.o2 (fun g hg=>(a9.lt g hg).1));have d7:Hid (aT bB (zR A5 a5.length c5)):=zx (aT.new D.out.o3 (fun g hg=>(a9.lt g hg).1));clear a9;have HIM':Hid (∀ i l' x',Rl (fun r=> .ok ((⟨at_,3,outs,il2,a5,[],⟨[],zV⟩,⟨[],zV⟩,A⟩:Jb),r)) q5 x5 i l' x'→Rl (am (aM at_ outs A)) l none i l' x'):=zx (fun i l' x' hq=>ad.out i l' x' (Rl.bind (Q:=fun a=>fun r=> .ok ((⟨at_,3,outs,il2,a,[],⟨[],zV⟩,⟨[],zV⟩,A⟩:Jb),r)) hr hq));clear ad hr;have ad:=HIM';clear HIM';have HJ':=zx (D.out.rd J.out I);have HK':=zx (Z.out.trans I);have HE':=zx (U.out.one aA I);have HP':=zx hp;clear D Z U J I hp HC;have D:=HJ';have Z:=HK';have U:=HE';have J:=HP';clear HJ' HK' HE' HP';have a0:=zx (zA M O.out);clear M O;have O:=a0;clear a0;have cj:=zx (bg dv.out d6.out);have e4:=D.out.blk.frozen 4;have ff:y5.cell? ⟨jb,4,none⟩=some ((zR none 0 0)):=D.out.blk.cell 4;have lj:=D.out.blk.lt;have a4:aa [jb] y5 (y5.setCell ⟨jb,4,none⟩ (zR A5 a5.length c5)):=(zN _ _).setCell (.inl (by simp)) _;have HJ':=zx (D.out.put4 cj.out d5.out d7.out);have HP':=zx (J.out.box D.out a4);have HK':=zx (Z.out.box bn.out a4);have HE':=zx (bq.out.one aA HK'.out);clear a4;have ba:Hid (Rl (am (aM at_ outs A)) l none (⟨at_,3,outs,il2,a5,[],⟨[],zV⟩,⟨[],zV⟩,A⟩:Jb) q5 x5):=zx (ad.out _ _ _ (Rl.stay (fun _=>rfl)));go_wp2;first|go_end0|refine bodyPost_ret (results_none rfl _ _ _) rfl ?_
  exact ⟨rfl,bQ.mk (⟨at_,3,outs,il2,a5,[],⟨[],zV⟩,⟨[],zV⟩,A⟩:Jb) _ _ _ q5 x5 HJ'.out HP'.out ba.out O.out HK'.out⟩
theorem vE {l:List Tk} {b jb lo:Nat} {v2:Value} (at_:Int) (outs:List Bs) (A:Int) (w0 w:World) (hE:RB w0 lo) (aA:lo≤b) (h:aE w b l none) (I:aa [b] w0 w) (cv:w0.heap.size≤jb) (hj:ar w w0.heap.size jb (aM at_ outs A) v2 (zR none 0 0) (zR none 0 0)) (c6:l.length≤1000000) (bb:aQ (ax l).text=4) :
  Calls zy 150 #[zS (some ⟨b,0,none⟩),zS (some ⟨jb,0,none⟩)] w fun e w'=>e=zT (.tuple #[])∧bQ (am (aM at_ outs A)) l b jb w0 w':=by
 obtain ⟨i0,hi,d0,en,eb⟩:=info_parts eF;have bq:=zx hE;have J:=zx h;have Z:=zx I;have D:Hid (ar w w0.heap.size jb (⟨at_,0,outs,[],[],[],⟨[],zV⟩,⟨[],zV⟩,A⟩:Jb) v2 (zR none 0 0) (zR none 0 0)):=zx hj;have U:=zx (hE.one aA I);have bn:=zx cv;have el:=zx c6;have O:=zx (zz l.length);have b6:ru (ax l):=by obtain ⟨_,_,_,_,_,_,_,_,_,_,_,_,_,_,_,_,hh⟩:=h.open';exact hh
 have c9:=zx (fun r hr=>dr b6 r hr);have cu:=zx bb;have bk:Hid (([]:List Bs).length≤100):=zx (by simp);have b4:=dy b6 (by rw[bb];decide);have ad:Hid (∀ i l' x',Rl (fun r=>aj r >>= fun p0=>(fun r=>aq [98,121] r >>= (fun r=>bR r >>= fun p2=>(fun r=> .ok ((⟨at_,4,outs,[]++[p0.1],p2.1,[],⟨[],zV⟩,⟨[],zV⟩,A⟩:Jb),r)) p2.2)) p0.2) l.tail none i l' x'→Rl (am (aM at_ outs A)) l none i l' x'):=zx (fun i l' x' hq=>Rl.shift (by
  unfold am;rw[bb,if_neg (by rw[b4];decide)];rfl) hq)
 have bm:(ax l).text=[115,111,114,116]:=aU bb (by decide);have c7:aG [115,111,114,116] l=true:=by
  unfold aG;rw[b4,bm];rfl
 have c8:=zx c7;have co:=zx bm;clear hE h I hj c6 cv bb b6 b4 c7 bm;obtain ⟨mx,cx⟩:=U.out.renv.mlen;have ch:=zx (cB mx w cx);clear cx;go_enter Tryz.func150,Tryz.ntmps150
 go_wp2_with fail
 refine ch.out.mono ?_;rintro ev w1 ⟨rfl,rfl⟩;have bl:=zO w 9 (strs ai).toArray;have bd:aa [] w (w.alloc (zU (strs ai).toArray 9)):=(zN _ _).alloc _;have HP':=zx (J.out.keep bd);have HJ':=zx (D.out.keep bd);have HK':=zx (Z.out.trans bd.of_nil);obtain ⟨B,hB⟩:∃ B,w.heap.size=B:=⟨_,rfl⟩
 have ep:Hid (B≠b∧jb≠B):=zx (by have:=J.out.lt;have:=D.out.blk.lt;omega);rw[hB] at bl ⊢;obtain ⟨w1,ci⟩:∃ z,w.alloc (zU (strs ai).toArray 9)=z:=⟨_,rfl⟩
 rw[ci] at bl HP' HJ' HK' ⊢;have a3:=zx bl;clear bl bd hB ci J D Z U ch;go_wp2_with fail
 go_loopw [8] (fun i wr=>∃ r:Nat,r≤9∧i=zW zX r∧Hid (aE wr b l none)∧Hid (ar wr w0.heap.size jb (⟨at_,(aO 4 r:Nat),outs,[],[],[],⟨[],zV⟩,⟨[],zV⟩,A⟩:Jb) v2 (zR none 0 0) (zR none 0 0))∧Hid (ap wr B 9 (strs ai).toArray)∧Hid (aa [b] w0 wr)) (fun i _=>9-(intOf i).toNat)
 case atStart=>exact ⟨0,zE _,rfl,HP',HJ',a3,HK'⟩
 clear HP' HJ' HK' a3;obtain ⟨r,hr,rfl,J,D,a3,Z⟩:=hrel;have U:=zx (bq.out.one aA Z.out);by_cases cp:r<9
 ·have e3:(r:Int)<9:=by omega
  have b7:r<ai.length:=cp;have cf:wr.cell? ⟨B,r,none⟩=some (zQ (bs ai[r])):=by
   rw[a3.out.cell r];simp[strs,zI b7]
  have lb:=a3.out.lt;have hS:=cL ai[r] wr U.out.fine J.out;rw[c9.out r b7,cu.out] at hS;obtain ⟨wd,cq⟩:∃ wd,ai[r]=wd:=⟨_,rfl⟩
  rw[cq] at hS cf;clear cq b7;by_cases hc:(4:Nat)=r+1
  ·rw[decide_eq_true hc] at hS
   have HS:=zx hS;have es:Hid (((r:Int)+1)=(aO 4 (r+1):Nat)):=zx (by rw[dh hc];omega);clear hS hc;go_wp2_with fail
   refine HS.out.mono ?_;rintro ev w2 ⟨a1,I⟩;have hev':ev=zT (.bool true):=a1;subst hev';have bo:=zx (J.out.keep I);have a6:=zx (D.out.keep I);have b0:=zx (a3.out.keep I (by simp));have b5:=zx (Z.out.trans I.of_nil);have fb:=a6.out.blk.frozen 1;have bj:w2.cell? ⟨jb,1,none⟩=some (zW zX (aO 4 r:Nat)):=a6.out.blk.cell 1;have lj:=a6.out.blk.lt;clear a1 I J D a3 Z HS cf lb;have a4:aa [jb] w2 (w2.setCell ⟨jb,1,none⟩ (zW zX ((r:Int)+1))):=(zN _ _).setCell (.inl (by simp)) _;have em:Hid (ar (w2.setCell ⟨jb,1,none⟩ (zW zX ((r:Int)+1))) w0.heap.size jb (⟨at_,(aO 4 (r+1):Nat),outs,[],[],[],⟨[],zV⟩,⟨[],zV⟩,A⟩:Jb) v2 (zR none 0 0) (zR none 0 0)):=zx (a6.out.box a4 ((a6.out.blk.set 1 (zW zX ((r:Int)+1))).congr (by rw[es.out];rfl)) rfl rfl rfl);have d2:=zx (bo.out.box a6.out a4);have ek:=zx (b5.out.box bn.out a4);have d9:=zx (b0.out.far (p:=⟨jb,1,none⟩) (fun e=>ep.out.2 e.symm) (zW zX ((r:Int)+1)));clear a4;go_wp2;go_roundw
   case rel=>exact ⟨r+1,by omega,by go_num,d2,em,d9,ek⟩
   case measure=>simp[intOf];omega
  rw[decide_eq_false hc] at hS;have HS:=zx hS;have d1:Hid (aO 4 (r+1)=aO 4 r):=zx (dF hc);clear hS hc;go_wp2_with fail
  refine HS.out.mono ?_;rintro ev w2 ⟨a1,I⟩;have hev':ev=zT (.bool false):=a1;subst hev';have bo:=zx (J.out.keep I);have a6:=zx (D.out.keep I);have b0:=zx (a3.out.keep I (by simp));have b5:=zx (Z.out.trans I.of_nil);clear a1 I J D a3 Z HS cf lb;go_wp2;go_roundw
  case rel=>exact ⟨r+1,by omega,by go_num,bo,by rw[d1.out];exact a6,b0,b5⟩
  case measure=>simp[intOf];omega
 obtain rfl:r=9:=by omega
 have HJ':Hid (ar wr w0.heap.size jb (⟨at_,4,outs,[],[],[],⟨[],zV⟩,⟨[],zV⟩,A⟩:Jb) v2 (zR none 0 0) (zR none 0 0)):=zx D.out;clear D a3 hr cp;have D:=HJ';clear HJ';have bj:wr.cell? ⟨jb,1,none⟩=some (zW zX 4):=D.out.blk.cell 1;have lj:=D.out.blk.lt;obtain ⟨g,o,c,c0,c1,c2,-,lb,lg,-,hn,hc,d4,k0,k1,k2,-⟩:=J.out.open';rw[co.out] at k1;have er:(0:Int)<(l.length:Int):=by omega
 have HC:=zx (aJ [115,111,114,116] wr U.out.fine (U.out.fne aA) J.out);go_wp2_with fail
 refine HC.out.mono ?_;rintro ev y1 ⟨rfl,⟨q1,x1,hp,hr,M⟩,I⟩;obtain ⟨rfl,rfl⟩:=cI hr c8.out;clear hr c0 c1 c2 lb lg hn hc d4 k0 k1 k2 er bj lj c8 co c9 cu;have HJ':=zx (D.out.rd J.out I);have HK':=zx (Z.out.trans I);have HE':=zx (U.out.one aA I);have HP':=zx hp;clear D Z U J I hp HC;have D:=HJ';have Z:=HK';have U:=HE';have J:=HP';clear HJ' HK' HE' HP';have a0:=zx (zA M O.out);clear M O;have O:=a0;clear a0;obtain ⟨q1,c4⟩:∃ q1,l.tail=q1:=⟨_,rfl⟩
 rw[c4] at J ad O;clear c4;go_upto_region 9 with (fail)
 have fS:y1.cell? ⟨jb,3,none⟩=some (zR none 0 0)∧y1.frozen? ⟨jb,3,none⟩=false:=⟨D.out.blk.cell 3,D.out.blk.frozen 3⟩;have lj:=D.out.blk.lt;have bA:=zx (show (([]:List Bs)).length+1≤maxLen∧((([]:List Bs)).length+1)*16≤140737488355328 by have:=bk.out;simp only[maxLen,zG,zK] at *;omega);have c3:Hid (jb∉[b]):=zx (by have:=D.out.blk.ty.ne J.out.ty (by decide);simpa using this);have HC:Hid (∀ W,aa [] y1 W→Calls zy 101 #[zS (some ⟨b,0,none⟩)] W fun e w'=>∃ s l' x',e=zT (zQ (bs s))∧aE w' b l' x'∧Rl aj q1 none s l' x'∧s.length≤10∧l'.length≤q1.length∧aa [b] W w'):=zx (fun W z=>aS W (U.out.quiet z).fine (U.out.fne aA) (J.out.keep z));go_cut [] (fun wx=>∃ a2 q2 x2 bB,ar wx w0.heap.size jb (⟨at_,4,outs,[]++[a2],[],[],⟨[],zV⟩,⟨[],zV⟩,A⟩:Jb) v2 bB (zR none 0 0)∧aE wx b q2 x2∧Rl aj q1 none a2 q2 x2∧q2.length≤q1.length∧aa [b] w0 wx)
 case first =>
  go_region_law (first|(refine step_append_lies _ (by rfl) _ _ _ (by rfl) w0.heap.size 9 i0 _ 1 16 Tryz.underlying55 hi d0 en eb rfl (by decide) (zR none 0 0) (([]:List Bs)).length (strs (([]:List Bs))) (by rfl) ((D.out.rd J.out a7.undrew).o3.alloc _) ⟨w6.heap.size,0,none⟩ 1 1 [zQ (bs a2)] (by rfl) rfl (zJ (heap_alloc_new _ _)) (by simp[Value.oneCell']) (by decide) bA.out.1 bA.out.2 (by have:=Z.out.size;have:=a7.size;have h9:y1.drew.heap.size=y1.heap.size:=rfl;simp;omega) _ rfl ?_;intro gw fc w7 b1 a8 ds et;obtain ⟨e9,e5⟩:=az a8 (ay ⟨ct,dB⟩ _) (fun e=>(av (D.out.rd J.out a7.undrew).o3 jb e).ne (D.out.rd J.out a7.undrew).blk.ty (by decide) rfl))|(go_simp;go_at_call 101;refine (HC.out _ (zN [] y1).drew).mono ?_;rintro e w6 ⟨a2,q2,x2,rfl,d8,d3,e0,cg,a7⟩;obtain ⟨ct,dB⟩:=aC a7 fS c3.out;have ez:jb<w6.heap.size:=zB w6 ⟨jb,3,none⟩ ct))
  all_goals
   go_wp2;go_meet;have hh:=ar.app3r (D.out.rd J.out a7.undrew) d8 (Z.out.trans a7.undrew) rfl bn.out a8 rfl b1 ds (by simp);exact ⟨a2,q2,x2,_,hh.1,hh.2.1,d3,cg,hh.2.2⟩
 obtain ⟨a2,q2,x2,bB,hj,hp,hr,M,I⟩:=hcut;obtain ⟨y2,rfl⟩:∃ y:World,y=wc:=⟨_,rfl⟩
 clear J D Z U HC fS lj bA c3;have J:=zx hp;have D:=zx hj;have Z:=zx I;have U:=zx (bq.out.one aA I);clear hp hj I;have HIM':Hid (∀ i l' x',Rl (fun r=>aq [98,121] r >>= (fun r=>bR r >>= fun p2=>(fun r=> .ok ((⟨at_,4,outs,[]++[a2],p2.1,[],⟨[],zV⟩,⟨[],zV⟩,A⟩:Jb),r)) p2.2)) q2 x2 i l' x'→Rl (am (aM at_ outs A)) l none i l' x'):=zx (fun i l' x' hq=>ad.out i l' x' (Rl.bind (Q:=fun a=>fun r=>aq [98,121] r >>= (fun r=>bR r >>= fun p2=>(fun r=> .ok ((⟨at_,4,outs,[]++[a],p2.1,[],⟨[],zV⟩,⟨[],zV⟩,A⟩:Jb),r)) p2.2)) hr hq));clear ad hr;have ad:=HIM';clear HIM';have a0:=zx (zA M O.out);clear M O;have O:=a0;clear a0;have b3:Hid (([]++[a2]).length≤101):=zx (by have:=bk.out;simp only[zF,zG,zK] at *;omega);obtain ⟨il2,dq⟩:∃ il,[]++[a2]=il:=⟨_,rfl⟩
 rw[dq] at D ad b3;clear dq bk;have bk:=b3;clear b3;have bj:y2.cell? ⟨jb,1,none⟩=some (zW zX 4):=D.out.blk.cell 1;have lj:=D.out.blk.lt;have HC:=zx (aJ [98,121] y2 U.out.fine (U.out.fne aA) J.out);go_wp2_with fail
 refine HC.out.mono ?_;rintro ev y3 ⟨rfl,⟨q3,x3,hp,hr,M⟩,I⟩;have HIM':Hid (∀ i l' x',Rl (fun r=>bR r >>= fun p2=>(fun r=> .ok ((⟨at_,4,outs,il2,p2.1,[],⟨[],zV⟩,⟨[],zV⟩,A⟩:Jb),r)) p2.2) q3 x3 i l' x'→Rl (am (aM at_ outs A)) l none i l' x'):=zx (fun i l' x' hq=>ad.out i l' x' (Rl.must hr hq));clear ad hr;have ad:=HIM';clear HIM';have HJ':=zx (D.out.rd J.out I);have HK':=zx (Z.out.trans I);have HE':=zx (U.out.one aA I);have HP':=zx hp;clear D Z U J I hp HC;have D:=HJ';have Z:=HK';have U:=HE';have J:=HP';clear HJ' HK' HE' HP';have a0:=zx (zA M O.out);clear M O;have O:=a0;clear a0;clear bj lj
 cases x3 with
 | some y =>
  have HD:Hid (∀ i l',Rl (am (aM at_ outs A)) l none i l' (some y)):=zx (fun i l'=>ad.out i l' _ rfl);clear ad;have HC:=zx (aN y3 U.out.fine J.out);go_wp2_with fail
  refine HC.out.mono ?_;rintro ev y4 ⟨a1,I⟩;have hev':ev=zT (.bool false):=a1;subst hev';clear a1;have HJ':=zx (D.out.keep I);have HK':=zx (Z.out.trans I.of_nil);have HE':=zx (U.out.quiet I);have HP':=zx (J.out.keep I);clear D Z U J I HC;have D:=HJ';have Z:=HK';have U:=HE';have J:=HP';clear HJ' HK' HE' HP';have ba:Hid (Rl (am (aM at_ outs A)) l none (⟨at_,4,outs,il2,[],[],⟨[],zV⟩,⟨[],zV⟩,A⟩:Jb) q3 (some y)):=zx (HD.out _ _);go_wp2;first|go_end0|refine bodyPost_ret (results_none rfl _ _ _) rfl ?_
  exact ⟨rfl,bQ.mk (⟨at_,4,outs,il2,[],[],⟨[],zV⟩,⟨[],zV⟩,A⟩:Jb) _ _ _ q3 (some y) D.out J.out ba.out O.out Z.out⟩
 | none =>
  have HC:=zx (aN y3 U.out.fine J.out);go_wp2_with fail
  refine HC.out.mono ?_;rintro ev y4 ⟨a1,I⟩;have hev':ev=zT (.bool true):=a1;subst hev';clear a1;have HJ':=zx (D.out.keep I);have HK':=zx (Z.out.trans I.of_nil);have HE':=zx (U.out.quiet I);have HP':=zx (J.out.keep I);clear D Z U J I HC;have D:=HJ';have Z:=HK';have U:=HE';have J:=HP';clear HJ' HK' HE' HP';have HC:=zx (jI y4 U.out.fine (Nat.lt_of_lt_of_le U.out.flt aA) J.out (zA O.out el.out));go_wp2_with fail
  refine HC.out.mono ?_;rintro ev y5 ⟨a5,v5,q5,x5,rfl,a9,hp,hr,hs,M,I⟩;clear hs;obtain ⟨A5,c5,hv,-⟩:=ao a9;subst hv;have dv:=zx a9;have d6:=zx Z.out.size;have d5:Hid (aT v2 (zR A5 a5.length c5)):=zx (aT.new D.out.o2 (fun g hg=>(a9.lt g hg).1));have d7:Hid (aT bB (zR A5 a5.length c5)):=zx (aT.new D.out.o3 (fun g hg=>(a9.lt g hg).1));clear a9;have HIM':Hid (∀ i l' x',Rl (fun r=> .ok ((⟨at_,4,outs,il2,a5,[],⟨[],zV⟩,⟨[],zV⟩,A⟩:Jb),r)) q5 x5 i l' x'→Rl (am (aM at_ outs A)) l none i l' x'):=zx (fun i l' x' hq=>ad.out i l' x' (Rl.bind (Q:=fun a=>fun r=> .ok ((⟨at_,4,outs,il2,a,[],⟨[],zV⟩,⟨[],zV⟩,A⟩:Jb),r)) hr hq));clear ad hr;have ad:=HIM';clear HIM';have HJ':=zx (D.out.rd J.out I);have HK':=zx (Z.out.trans I);have HE':=zx (U.out.one aA I);have HP':=zx hp;clear D Z U J I hp HC;have D:=HJ';have Z:=HK';have U:=HE';have J:=HP';clear HJ' HK' HE' HP';have a0:=zx (zA M O.out);clear M O;have O:=a0;clear a0;have cj:=zx (bg dv.out d6.out);have e4:=D.out.blk.frozen 4;have ff:y5.cell? ⟨jb,4,none⟩=some ((zR none 0 0)):=D.out.blk.cell 4;have lj:=D.out.blk.lt;have a4:aa [jb] y5 (y5.setCell ⟨jb,4,none⟩ (zR A5 a5.length c5)):=(zN _ _).setCell (.inl (by simp)) _;have HJ':=zx (D.out.put4 cj.out d5.out d7.out);have HP':=zx (J.out.box D.out a4);have HK':=zx (Z.out.box bn.out a4);have HE':=zx (bq.out.one aA HK'.out);clear a4;have ba:Hid (Rl (am (aM at_ outs A)) l none (⟨at_,4,outs,il2,a5,[],⟨[],zV⟩,⟨[],zV⟩,A⟩:Jb) q5 x5):=zx (ad.out _ _ _ (Rl.stay (fun _=>rfl)));go_wp2;first|go_end0|refine bodyPost_ret (results_none rfl _ _ _) rfl ?_
  exact ⟨rfl,bQ.mk (⟨at_,4,outs,il2,a5,[],⟨[],zV⟩,⟨[],zV⟩,A⟩:Jb) _ _ _ q5 x5 HJ'.out HP'.out ba.out O.out HK'.out⟩
theorem vF {l:List Tk} {b jb lo:Nat} {v2:Value} (at_:Int) (outs:List Bs) (A:Int) (w0 w:World) (hE:RB w0 lo) (a4:lo≤b) (h:aE w b l none) (J:aa [b] w0 w) (c6:w0.heap.size≤jb) (hj:ar w w0.heap.size jb (aM at_ outs A) v2 (zR none 0 0) (zR none 0 0)) (ds:l.length≤1000000) (bj:aQ (ax l).text=5) :
  Calls zy 150 #[zS (some ⟨b,0,none⟩),zS (some ⟨jb,0,none⟩)] w fun e w'=>e=zT (.tuple #[])∧bQ (am (aM at_ outs A)) l b jb w0 w':=by
 obtain ⟨i0,hi,cu,dB,c8⟩:=info_parts eF;have cp:=zx hE;have I:=zx h;have Z:=zx J;have D:Hid (ar w w0.heap.size jb (⟨at_,0,outs,[],[],[],⟨[],zV⟩,⟨[],zV⟩,A⟩:Jb) v2 (zR none 0 0) (zR none 0 0)):=zx hj;have U:=zx (hE.one a4 J);have bB:=zx c6;have e0:=zx ds;have aA:=zx (zz l.length);have cg:ru (ax l):=by obtain ⟨_,_,_,_,_,_,_,_,_,_,_,_,_,_,_,_,hh⟩:=h.open';exact hh
 have d1:=zx (fun r hr=>dr cg r hr);have c4:=zx bj;have bd:Hid (([]:List Bs).length≤100):=zx (by simp);have b7:=dy cg (by rw[bj];decide);have a0:Hid (∀ i l' x',Rl (fun r=>aj r >>= fun p0=>(fun r=>aq [44] r >>= (fun r=>aj r >>= fun p2=>(fun r=> .ok ((⟨at_,5,outs,[]++[p0.1]++[p2.1],[],[],⟨[],zV⟩,⟨[],zV⟩,A⟩:Jb),r)) p2.2)) p0.2) l.tail none i l' x'→Rl (am (aM at_ outs A)) l none i l' x'):=zx (fun i l' x' hq=>Rl.shift (by
  unfold am;rw[bj,if_neg (by rw[b7];decide)];rfl) hq)
 have bA:(ax l).text=[117,110,105,111,110]:=aU bj (by decide);have dv:aG [117,110,105,111,110] l=true:=by
  unfold aG;rw[b7,bA];rfl
 have d0:=zx dv;have ct:=zx bA;clear hE h J hj ds c6 bj cg b7 dv bA;obtain ⟨mx,c7⟩:=U.out.renv.mlen;have cj:=zx (cB mx w c7);clear c7;go_enter Tryz.func150,Tryz.ntmps150
 go_wp2_with fail
 refine cj.out.mono ?_;rintro ev w1 ⟨rfl,rfl⟩;have bq:=zO w 9 (strs ai).toArray;have bm:aa [] w (w.alloc (zU (strs ai).toArray 9)):=(zN _ _).alloc _;have HP':=zx (I.out.keep bm);have HJ':=zx (D.out.keep bm);have HK':=zx (Z.out.trans bm.of_nil);obtain ⟨B,hB⟩:∃ B,w.heap.size=B:=⟨_,rfl⟩
 have en:Hid (B≠b∧jb≠B):=zx (by have:=I.out.lt;have:=D.out.blk.lt;omega);rw[hB] at bq ⊢;obtain ⟨w1,co⟩:∃ z,w.alloc (zU (strs ai).toArray 9)=z:=⟨_,rfl⟩
 rw[co] at bq HP' HJ' HK' ⊢;have a3:=zx bq;clear bq bm hB co I D Z U cj;go_wp2_with fail
 go_loopw [8] (fun i wr=>∃ r:Nat,r≤9∧i=zW zX r∧Hid (aE wr b l none)∧Hid (ar wr w0.heap.size jb (⟨at_,(aO 5 r:Nat),outs,[],[],[],⟨[],zV⟩,⟨[],zV⟩,A⟩:Jb) v2 (zR none 0 0) (zR none 0 0))∧Hid (ap wr B 9 (strs ai).toArray)∧Hid (aa [b] w0 wr)) (fun i _=>9-(intOf i).toNat)
 case atStart=>exact ⟨0,zE _,rfl,HP',HJ',a3,HK'⟩
 clear HP' HJ' HK' a3;obtain ⟨r,hr,rfl,I,D,a3,Z⟩:=hrel;have U:=zx (cp.out.one a4 Z.out);by_cases cx:r<9
 ·have et:(r:Int)<9:=by omega
  have ch:r<ai.length:=cx;have ci:wr.cell? ⟨B,r,none⟩=some (zQ (bs ai[r])):=by
   rw[a3.out.cell r];simp[strs,zI ch]
  have lb:=a3.out.lt;have hS:=cL ai[r] wr U.out.fine I.out;rw[d1.out r ch,c4.out] at hS;obtain ⟨wd,c3⟩:∃ wd,ai[r]=wd:=⟨_,rfl⟩
  rw[c3] at hS ci;clear c3 ch;by_cases hc:(5:Nat)=r+1
  ·rw[decide_eq_true hc] at hS
   have HS:=zx hS;have er:Hid (((r:Int)+1)=(aO 5 (r+1):Nat)):=zx (by rw[dh hc];omega);clear hS hc;go_wp2_with fail
   refine HS.out.mono ?_;rintro ev w2 ⟨a1,J⟩;have hev':ev=zT (.bool true):=a1;subst hev';have b0:=zx (I.out.keep J);have a6:=zx (D.out.keep J);have b4:=zx (a3.out.keep J (by simp));have cf:=zx (Z.out.trans J.of_nil);have ez:=a6.out.blk.frozen 1;have bn:w2.cell? ⟨jb,1,none⟩=some (zW zX (aO 5 r:Nat)):=a6.out.blk.cell 1;have lj:=a6.out.blk.lt;clear a1 J I D a3 Z HS ci lb;have bl:aa [jb] w2 (w2.setCell ⟨jb,1,none⟩ (zW zX ((r:Int)+1))):=(zN _ _).setCell (.inl (by simp)) _;have el:Hid (ar (w2.setCell ⟨jb,1,none⟩ (zW zX ((r:Int)+1))) w0.heap.size jb (⟨at_,(aO 5 (r+1):Nat),outs,[],[],[],⟨[],zV⟩,⟨[],zV⟩,A⟩:Jb) v2 (zR none 0 0) (zR none 0 0)):=zx (a6.out.box bl ((a6.out.blk.set 1 (zW zX ((r:Int)+1))).congr (by rw[er.out];rfl)) rfl rfl rfl);have d6:=zx (b0.out.box a6.out bl);have ek:=zx (cf.out.box bB.out bl);have d9:=zx (b4.out.far (p:=⟨jb,1,none⟩) (fun e=>en.out.2 e.symm) (zW zX ((r:Int)+1)));clear bl;go_wp2;go_roundw
   case rel=>exact ⟨r+1,by omega,by go_num,d6,el,d9,ek⟩
   case measure=>simp[intOf];omega
  rw[decide_eq_false hc] at hS;have HS:=zx hS;have d5:Hid (aO 5 (r+1)=aO 5 r):=zx (dF hc);clear hS hc;go_wp2_with fail
  refine HS.out.mono ?_;rintro ev w2 ⟨a1,J⟩;have hev':ev=zT (.bool false):=a1;subst hev';have b0:=zx (I.out.keep J);have a6:=zx (D.out.keep J);have b4:=zx (a3.out.keep J (by simp));have cf:=zx (Z.out.trans J.of_nil);clear a1 J I D a3 Z HS ci lb;go_wp2;go_roundw
  case rel=>exact ⟨r+1,by omega,by go_num,b0,by rw[d5.out];exact a6,b4,cf⟩
  case measure=>simp[intOf];omega
 obtain rfl:r=9:=by omega
 have HJ':Hid (ar wr w0.heap.size jb (⟨at_,5,outs,[],[],[],⟨[],zV⟩,⟨[],zV⟩,A⟩:Jb) v2 (zR none 0 0) (zR none 0 0)):=zx D.out;clear D a3 hr cx;have D:=HJ';clear HJ';have bn:wr.cell? ⟨jb,1,none⟩=some (zW zX 5):=D.out.blk.cell 1;have lj:=D.out.blk.lt;obtain ⟨g,o,c,c0,c1,c2,-,lb,lg,-,hn,hc,d7,k0,k1,k2,-⟩:=I.out.open';rw[ct.out] at k1;have ep:(0:Int)<(l.length:Int):=by omega
 have HC:=zx (aJ [117,110,105,111,110] wr U.out.fine (U.out.fne a4) I.out);go_wp2_with fail
 refine HC.out.mono ?_;rintro ev y1 ⟨rfl,⟨q1,x1,hp,hr,ad⟩,J⟩;obtain ⟨rfl,rfl⟩:=cI hr d0.out;clear hr c0 c1 c2 lb lg hn hc d7 k0 k1 k2 ep bn lj d0 ct d1 c4;have HJ':=zx (D.out.rd I.out J);have HK':=zx (Z.out.trans J);have HE':=zx (U.out.one a4 J);have HP':=zx hp;clear D Z U I J hp HC;have D:=HJ';have Z:=HK';have U:=HE';have I:=HP';clear HJ' HK' HE' HP';have a7:=zx (zA ad aA.out);clear ad aA;have aA:=a7;clear a7;obtain ⟨q1,dq⟩:∃ q1,l.tail=q1:=⟨_,rfl⟩
 rw[dq] at I a0 aA;clear dq;go_upto_region 9 with (fail)
 have fS:y1.cell? ⟨jb,3,none⟩=some (zR none 0 0)∧y1.frozen? ⟨jb,3,none⟩=false:=⟨D.out.blk.cell 3,D.out.blk.frozen 3⟩;have lj:=D.out.blk.lt;have a9:=zx (show (([]:List Bs)).length+1≤maxLen∧((([]:List Bs)).length+1)*16≤140737488355328 by have:=bd.out;simp only[maxLen,zG,zK] at *;omega);have bo:Hid (jb∉[b]):=zx (by have:=D.out.blk.ty.ne I.out.ty (by decide);simpa using this);have HC:Hid (∀ W,aa [] y1 W→Calls zy 101 #[zS (some ⟨b,0,none⟩)] W fun e w'=>∃ s l' x',e=zT (zQ (bs s))∧aE w' b l' x'∧Rl aj q1 none s l' x'∧s.length≤10∧l'.length≤q1.length∧aa [b] W w'):=zx (fun W z=>aS W (U.out.quiet z).fine (U.out.fne a4) (I.out.keep z));go_cut [] (fun wx=>∃ a2 q2 x2 cv,ar wx w0.heap.size jb (⟨at_,5,outs,[]++[a2],[],[],⟨[],zV⟩,⟨[],zV⟩,A⟩:Jb) v2 cv (zR none 0 0)∧aE wx b q2 x2∧Rl aj q1 none a2 q2 x2∧q2.length≤q1.length∧aa [b] w0 wx)
 case first =>
  go_region_law (first|(refine step_append_lies _ (by rfl) _ _ _ (by rfl) w0.heap.size 9 i0 _ 1 16 Tryz.underlying55 hi cu dB c8 rfl (by decide) (zR none 0 0) (([]:List Bs)).length (strs (([]:List Bs))) (by rfl) ((D.out.rd I.out M.undrew).o3.alloc _) ⟨w6.heap.size,0,none⟩ 1 1 [zQ (bs a2)] (by rfl) rfl (zJ (heap_alloc_new _ _)) (by simp[Value.oneCell']) (by decide) a9.out.1 a9.out.2 (by have:=Z.out.size;have:=M.size;have h9:y1.drew.heap.size=y1.heap.size:=rfl;simp;omega) _ rfl ?_;intro gw em w7 a8 O bk cq;obtain ⟨eb,d8⟩:=az O (ay ⟨bb,b1⟩ _) (fun e=>(av (D.out.rd I.out M.undrew).o3 jb e).ne (D.out.rd I.out M.undrew).blk.ty (by decide) rfl))|(go_simp;go_at_call 101;refine (HC.out _ (zN [] y1).drew).mono ?_;rintro e w6 ⟨a2,q2,x2,rfl,b6,b3,d4,ba,M⟩;obtain ⟨bb,b1⟩:=aC M fS bo.out;have d3:jb<w6.heap.size:=zB w6 ⟨jb,3,none⟩ bb))
  all_goals
   go_wp2;go_meet;have hh:=ar.app3r (D.out.rd I.out M.undrew) b6 (Z.out.trans M.undrew) rfl bB.out O rfl a8 bk (by simp);exact ⟨a2,q2,x2,_,hh.1,hh.2.1,b3,ba,hh.2.2⟩
 obtain ⟨a2,q2,x2,cv,hj,hp,hr,ad,J⟩:=hcut;obtain ⟨y2,rfl⟩:∃ y:World,y=wc:=⟨_,rfl⟩
 clear I D Z U HC fS lj a9 bo;have I:=zx hp;have D:=zx hj;have Z:=zx J;have U:=zx (cp.out.one a4 J);clear hp hj J;have HIM':Hid (∀ i l' x',Rl (fun r=>aq [44] r >>= (fun r=>aj r >>= fun p2=>(fun r=> .ok ((⟨at_,5,outs,[]++[a2]++[p2.1],[],[],⟨[],zV⟩,⟨[],zV⟩,A⟩:Jb),r)) p2.2)) q2 x2 i l' x'→Rl (am (aM at_ outs A)) l none i l' x'):=zx (fun i l' x' hq=>a0.out i l' x' (Rl.bind (Q:=fun a=>fun r=>aq [44] r >>= (fun r=>aj r >>= fun p2=>(fun r=> .ok ((⟨at_,5,outs,[]++[a]++[p2.1],[],[],⟨[],zV⟩,⟨[],zV⟩,A⟩:Jb),r)) p2.2)) hr hq));clear a0 hr;have a0:=HIM';clear HIM';have a7:=zx (zA ad aA.out);clear ad aA;have aA:=a7;clear a7;have b5:Hid (([]++[a2]).length≤101):=zx (by have:=bd.out;simp only[zF,zG,zK] at *;omega);obtain ⟨il2,d2⟩:∃ il,[]++[a2]=il:=⟨_,rfl⟩
 rw[d2] at D a0 b5;clear d2 bd;have bd:=b5;clear b5;have bn:y2.cell? ⟨jb,1,none⟩=some (zW zX 5):=D.out.blk.cell 1;have lj:=D.out.blk.lt;have HC:=zx (aJ [44] y2 U.out.fine (U.out.fne a4) I.out);go_wp2_with fail
 refine HC.out.mono ?_;rintro ev y3 ⟨rfl,⟨q3,x3,hp,hr,ad⟩,J⟩;have HIM':Hid (∀ i l' x',Rl (fun r=>aj r >>= fun p2=>(fun r=> .ok ((⟨at_,5,outs,il2++[p2.1],[],[],⟨[],zV⟩,⟨[],zV⟩,A⟩:Jb),r)) p2.2) q3 x3 i l' x'→Rl (am (aM at_ outs A)) l none i l' x'):=zx (fun i l' x' hq=>a0.out i l' x' (Rl.must hr hq));clear a0 hr;have a0:=HIM';clear HIM';have HJ':=zx (D.out.rd I.out J);have HK':=zx (Z.out.trans J);have HE':=zx (U.out.one a4 J);have HP':=zx hp;clear D Z U I J hp HC;have D:=HJ';have Z:=HK';have U:=HE';have I:=HP';clear HJ' HK' HE' HP';have a7:=zx (zA ad aA.out);clear ad aA;have aA:=a7;clear a7;clear bn lj
 cases x3 with
 | some y =>
  have HD:Hid (∀ i l',Rl (am (aM at_ outs A)) l none i l' (some y)):=zx (fun i l'=>a0.out i l' _ rfl);clear a0;have HC:=zx (aN y3 U.out.fine I.out);go_wp2_with fail
  refine HC.out.mono ?_;rintro ev y4 ⟨a1,J⟩;have hev':ev=zT (.bool false):=a1;subst hev';clear a1;have HJ':=zx (D.out.keep J);have HK':=zx (Z.out.trans J.of_nil);have HE':=zx (U.out.quiet J);have HP':=zx (I.out.keep J);clear D Z U I J HC;have D:=HJ';have Z:=HK';have U:=HE';have I:=HP';clear HJ' HK' HE' HP';have c9:Hid (Rl (am (aM at_ outs A)) l none (⟨at_,5,outs,il2,[],[],⟨[],zV⟩,⟨[],zV⟩,A⟩:Jb) q3 (some y)):=zx (HD.out _ _);go_wp2;first|go_end0|refine bodyPost_ret (results_none rfl _ _ _) rfl ?_
  exact ⟨rfl,bQ.mk (⟨at_,5,outs,il2,[],[],⟨[],zV⟩,⟨[],zV⟩,A⟩:Jb) _ _ _ q3 (some y) D.out I.out c9.out aA.out Z.out⟩
 | none =>
  have HC:=zx (aN y3 U.out.fine I.out);go_wp2_with fail
  refine HC.out.mono ?_;rintro ev y4 ⟨a1,J⟩;have hev':ev=zT (.bool true):=a1;subst hev';clear a1;have HJ':=zx (D.out.keep J);have HK':=zx (Z.out.trans J.of_nil);have HE':=zx (U.out.quiet J);have HP':=zx (I.out.keep J);clear D Z U I J HC;have D:=HJ';have Z:=HK';have U:=HE';have I:=HP';clear HJ' HK' HE' HP';go_upto_region 37 with (fail)
  obtain ⟨A5,c5,hv,-⟩:=ao D.out.o3;subst hv;have fS:y4.cell? ⟨jb,3,none⟩=some (zR A5 (il2).length c5)∧y4.frozen? ⟨jb,3,none⟩=false:=⟨D.out.blk.cell 3,D.out.blk.frozen 3⟩;have lj:=D.out.blk.lt;have a9:=zx (show (il2).length+1≤maxLen∧((il2).length+1)*16≤140737488355328 by have:=bd.out;simp only[maxLen,zG,zK] at *;omega);have bo:Hid (jb∉[b]):=zx (by have:=D.out.blk.ty.ne I.out.ty (by decide);simpa using this);have HC:Hid (∀ W,aa [] y4 W→Calls zy 101 #[zS (some ⟨b,0,none⟩)] W fun e w'=>∃ s l' x',e=zT (zQ (bs s))∧aE w' b l' x'∧Rl aj q3 none s l' x'∧s.length≤10∧l'.length≤q3.length∧aa [b] W w'):=zx (fun W z=>aS W (U.out.quiet z).fine (U.out.fne a4) (I.out.keep z));have es:=a0;go_region_law (first|(refine step_append_lies _ (by rfl) _ _ _ (by rfl) w0.heap.size 9 i0 _ 1 16 Tryz.underlying55 hi cu dB c8 rfl (by decide) (zR A5 (il2).length c5) (il2).length (strs (il2)) (by rfl) ((D.out.rd I.out M.undrew).o3.alloc _) ⟨w6.heap.size,0,none⟩ 1 1 [zQ (bs a5)] (by rfl) rfl (zJ (heap_alloc_new _ _)) (by simp[Value.oneCell']) (by decide) a9.out.1 a9.out.2 (by have:=Z.out.size;have:=M.size;have h9:y4.drew.heap.size=y4.heap.size:=rfl;simp;omega) _ rfl ?_;intro gw em w7 a8 O bk cq;obtain ⟨eb,d8⟩:=az O (ay ⟨bb,b1⟩ _) (fun e=>(av (D.out.rd I.out M.undrew).o3 jb e).ne (D.out.rd I.out M.undrew).blk.ty (by decide) rfl))|(go_simp;go_at_call 101;refine (HC.out _ (zN [] y4).drew).mono ?_;rintro e w6 ⟨a5,q5,x5,rfl,b6,b3,d4,ba,M⟩;obtain ⟨bb,b1⟩:=aC M fS bo.out;have d3:jb<w6.heap.size:=zB w6 ⟨jb,3,none⟩ bb))
  all_goals
   go_wp2;first|go_end0|refine bodyPost_ret (results_none rfl _ _ _) rfl ?_
   have hh:=ar.app3r (D.out.rd I.out M.undrew) b6 (Z.out.trans M.undrew) rfl bB.out O rfl a8 bk (by simp);exact ⟨rfl,bQ.mk _ _ _ _ q5 x5 hh.1 hh.2.1 (a0.out _ _ _ (Rl.bind (Q:=fun a=>fun r=> .ok ((⟨at_,5,outs,il2++[a],[],[],⟨[],zV⟩,⟨[],zV⟩,A⟩:Jb),r)) b3 (Rl.stay (fun _=>rfl)))) (zA ba aA.out) hh.2.2⟩
theorem vG {l:List Tk} {b jb lo:Nat} {v2:Value} (at_:Int) (outs:List Bs) (A:Int) (w0 w:World) (hE:RB w0 lo) (a0:lo≤b) (h:aE w b l none) (I:aa [b] w0 w) (cj:w0.heap.size≤jb) (hj:ar w w0.heap.size jb (aM at_ outs A) v2 (zR none 0 0) (zR none 0 0)) (cu:l.length≤1000000) (a5:aQ (ax l).text=6) :
  Calls zy 150 #[zS (some ⟨b,0,none⟩),zS (some ⟨jb,0,none⟩)] w fun e w'=>e=zT (.tuple #[])∧bQ (am (aM at_ outs A)) l b jb w0 w':=by
 obtain ⟨i0,hi,c7,d3,d0⟩:=info_parts eF;have b5:=zx hE;have J:=zx h;have HK:=zx I;have D:Hid (ar w w0.heap.size jb (⟨at_,0,outs,[],[],[],⟨[],zV⟩,⟨[],zV⟩,A⟩:Jb) v2 (zR none 0 0) (zR none 0 0)):=zx hj;have HE:=zx (hE.one a0 I);have b0:=zx cj;have en:=zx cu;have O:=zx (zz l.length);have bq:ru (ax l):=by obtain ⟨_,_,_,_,_,_,_,_,_,_,_,_,_,_,_,_,hh⟩:=h.open';exact hh
 have c3:=zx (fun r hr=>dr bq r hr);have ci:=zx a5;have a8:Hid (([]:List Bs).length≤100):=zx (by simp);have bn:=dy bq (by rw[a5];decide);have a1:Hid (∀ i l' x',Rl (fun r=>aj r >>= fun p0=>(fun r=> .ok ((⟨at_,6,outs,[]++[p0.1],[],[],⟨[],zV⟩,⟨[],zV⟩,A⟩:Jb),r)) p0.2) l.tail none i l' x'→Rl (am (aM at_ outs A)) l none i l' x'):=zx (fun i l' x' hq=>Rl.shift (by
  unfold am;rw[a5,if_neg (by rw[bn];decide)];rfl) hq)
 have ba:(ax l).text=[100,105,115,116,105,110,99,116]:=aU a5 (by decide);have cv:aG [100,105,115,116,105,110,99,116] l=true:=by
  unfold aG;rw[bn,ba];rfl
 have cx:=zx cv;have b6:=zx ba;clear hE h I hj cu cj a5 bq bn cv ba;obtain ⟨mx,co⟩:=HE.out.renv.mlen;have b3:=zx (cB mx w co);clear co;go_enter Tryz.func150,Tryz.ntmps150
 go_wp2_with fail
 refine b3.out.mono ?_;rintro ev w1 ⟨rfl,rfl⟩;have a9:=zO w 9 (strs ai).toArray;have a7:aa [] w (w.alloc (zU (strs ai).toArray 9)):=(zN _ _).alloc _;have HP':=zx (J.out.keep a7);have HJ':=zx (D.out.keep a7);have HK':=zx (HK.out.trans a7.of_nil);obtain ⟨B,hB⟩:∃ B,w.heap.size=B:=⟨_,rfl⟩
 have d4:Hid (B≠b∧jb≠B):=zx (by have:=J.out.lt;have:=D.out.blk.lt;omega);rw[hB] at a9 ⊢;obtain ⟨w1,b4⟩:∃ z,w.alloc (zU (strs ai).toArray 9)=z:=⟨_,rfl⟩
 rw[b4] at a9 HP' HJ' HK' ⊢;have M:=zx a9;clear a9 a7 hB b4 J D HK HE b3;go_wp2_with fail
 go_loopw [8] (fun i wr=>∃ r:Nat,r≤9∧i=zW zX r∧Hid (aE wr b l none)∧Hid (ar wr w0.heap.size jb (⟨at_,(aO 6 r:Nat),outs,[],[],[],⟨[],zV⟩,⟨[],zV⟩,A⟩:Jb) v2 (zR none 0 0) (zR none 0 0))∧Hid (ap wr B 9 (strs ai).toArray)∧Hid (aa [b] w0 wr)) (fun i _=>9-(intOf i).toNat)
 case atStart=>exact ⟨0,zE _,rfl,HP',HJ',M,HK'⟩
 clear HP' HJ' HK' M;obtain ⟨r,hr,rfl,J,D,M,HK⟩:=hrel;have HE:=zx (b5.out.one a0 HK.out);by_cases cf:r<9
 ·have eb:(r:Int)<9:=by omega
  have bA:r<ai.length:=cf;have bB:wr.cell? ⟨B,r,none⟩=some (zQ (bs ai[r])):=by
   rw[M.out.cell r];simp[strs,zI bA]
  have lb:=M.out.lt;have hS:=cL ai[r] wr HE.out.fine J.out;rw[c3.out r bA,ci.out] at hS;obtain ⟨wd,cg⟩:∃ wd,ai[r]=wd:=⟨_,rfl⟩
  rw[cg] at hS bB;clear cg bA;by_cases hc:(6:Nat)=r+1
  ·rw[decide_eq_true hc] at hS
   have HS:=zx hS;have d6:Hid (((r:Int)+1)=(aO 6 (r+1):Nat)):=zx (by rw[dh hc];omega);clear hS hc;go_wp2_with fail
   refine HS.out.mono ?_;rintro ev w2 ⟨a4,I⟩;have hev':ev=zT (.bool true):=a4;subst hev';have bb:=zx (J.out.keep I);have Z:=zx (D.out.keep I);have bk:=zx (M.out.keep I (by simp));have bo:=zx (HK.out.trans I.of_nil);have em:=Z.out.blk.frozen 1;have bj:w2.cell? ⟨jb,1,none⟩=some (zW zX (aO 6 r:Nat)):=Z.out.blk.cell 1;have lj:=Z.out.blk.lt;clear a4 I J D M HK HS bB lb;have a6:aa [jb] w2 (w2.setCell ⟨jb,1,none⟩ (zW zX ((r:Int)+1))):=(zN _ _).setCell (.inl (by simp)) _;have d2:Hid (ar (w2.setCell ⟨jb,1,none⟩ (zW zX ((r:Int)+1))) w0.heap.size jb (⟨at_,(aO 6 (r+1):Nat),outs,[],[],[],⟨[],zV⟩,⟨[],zV⟩,A⟩:Jb) v2 (zR none 0 0) (zR none 0 0)):=zx (Z.out.box a6 ((Z.out.blk.set 1 (zW zX ((r:Int)+1))).congr (by rw[d6.out];rfl)) rfl rfl rfl);have c9:=zx (bb.out.box Z.out a6);have d1:=zx (bo.out.box b0.out a6);have dB:=zx (bk.out.far (p:=⟨jb,1,none⟩) (fun e=>d4.out.2 e.symm) (zW zX ((r:Int)+1)));clear a6;go_wp2;go_roundw
   case rel=>exact ⟨r+1,by omega,by go_num,c9,d2,dB,d1⟩
   case measure=>simp[intOf];omega
  rw[decide_eq_false hc] at hS;have HS:=zx hS;have c8:Hid (aO 6 (r+1)=aO 6 r):=zx (dF hc);clear hS hc;go_wp2_with fail
  refine HS.out.mono ?_;rintro ev w2 ⟨a4,I⟩;have hev':ev=zT (.bool false):=a4;subst hev';have bb:=zx (J.out.keep I);have Z:=zx (D.out.keep I);have bk:=zx (M.out.keep I (by simp));have bo:=zx (HK.out.trans I.of_nil);clear a4 I J D M HK HS bB lb;go_wp2;go_roundw
  case rel=>exact ⟨r+1,by omega,by go_num,bb,by rw[c8.out];exact Z,bk,bo⟩
  case measure=>simp[intOf];omega
 obtain rfl:r=9:=by omega
 have HJ':Hid (ar wr w0.heap.size jb (⟨at_,6,outs,[],[],[],⟨[],zV⟩,⟨[],zV⟩,A⟩:Jb) v2 (zR none 0 0) (zR none 0 0)):=zx D.out;clear D M hr cf;have D:=HJ';clear HJ';have bj:wr.cell? ⟨jb,1,none⟩=some (zW zX 6):=D.out.blk.cell 1;have lj:=D.out.blk.lt;obtain ⟨g,o,c,c0,c1,c2,-,lb,lg,-,hn,hc,ds,k0,k1,k2,-⟩:=J.out.open';rw[b6.out] at k1;have d5:(0:Int)<(l.length:Int):=by omega
 have HC:=zx (aJ [100,105,115,116,105,110,99,116] wr HE.out.fine (HE.out.fne a0) J.out);go_wp2_with fail
 refine HC.out.mono ?_;rintro ev y1 ⟨rfl,⟨q1,x1,hp,hr,U⟩,I⟩;obtain ⟨rfl,rfl⟩:=cI hr cx.out;clear hr c0 c1 c2 lb lg hn hc ds k0 k1 k2 d5 bj lj cx b6 c3 ci;have HJ':=zx (D.out.rd J.out I);have HK':=zx (HK.out.trans I);have HE':=zx (HE.out.one a0 I);have HP':=zx hp;clear D HK HE J I hp HC;have D:=HJ';have HK:=HK';have HE:=HE';have J:=HP';clear HJ' HK' HE' HP';have a3:=zx (zA U O.out);clear U O;have O:=a3;clear a3;obtain ⟨q1,ct⟩:∃ q1,l.tail=q1:=⟨_,rfl⟩
 rw[ct] at J a1 O;clear ct;go_upto_region 9 with (fail)
 have fS:y1.cell? ⟨jb,3,none⟩=some (zR none 0 0)∧y1.frozen? ⟨jb,3,none⟩=false:=⟨D.out.blk.cell 3,D.out.blk.frozen 3⟩;have lj:=D.out.blk.lt;have bd:=zx (show (([]:List Bs)).length+1≤maxLen∧((([]:List Bs)).length+1)*16≤140737488355328 by have:=a8.out;simp only[maxLen,zG,zK] at *;omega);have cp:Hid (jb∉[b]):=zx (by have:=D.out.blk.ty.ne J.out.ty (by decide);simpa using this);have HC:Hid (∀ W,aa [] y1 W→Calls zy 101 #[zS (some ⟨b,0,none⟩)] W fun e w'=>∃ s l' x',e=zT (zQ (bs s))∧aE w' b l' x'∧Rl aj q1 none s l' x'∧s.length≤10∧l'.length≤q1.length∧aa [b] W w'):=zx (fun W z=>aS W (HE.out.quiet z).fine (HE.out.fne a0) (J.out.keep z));go_cut [] (fun wx=>∃ a2 q2 x2 b7,ar wx w0.heap.size jb (⟨at_,6,outs,[]++[a2],[],[],⟨[],zV⟩,⟨[],zV⟩,A⟩:Jb) v2 b7 (zR none 0 0)∧aE wx b q2 x2∧Rl aj q1 none a2 q2 x2∧q2.length≤q1.length∧aa [b] w0 wx)
 case first =>
  go_region_law (first|(refine step_append_lies _ (by rfl) _ _ _ (by rfl) w0.heap.size 9 i0 _ 1 16 Tryz.underlying55 hi c7 d3 d0 rfl (by decide) (zR none 0 0) (([]:List Bs)).length (strs (([]:List Bs))) (by rfl) ((D.out.rd J.out ad.undrew).o3.alloc _) ⟨w6.heap.size,0,none⟩ 1 1 [zQ (bs a2)] (by rfl) rfl (zJ (heap_alloc_new _ _)) (by simp[Value.oneCell']) (by decide) bd.out.1 bd.out.2 (by have:=HK.out.size;have:=ad.size;have h9:y1.drew.heap.size=y1.heap.size:=rfl;simp;omega) _ rfl ?_;intro gw ep w7 bl aA c5 d7;obtain ⟨el,ek⟩:=az aA (ay ⟨ch,c6⟩ _) (fun e=>(av (D.out.rd J.out ad.undrew).o3 jb e).ne (D.out.rd J.out ad.undrew).blk.ty (by decide) rfl))|(go_simp;go_at_call 101;refine (HC.out _ (zN [] y1).drew).mono ?_;rintro e w6 ⟨a2,q2,x2,rfl,dv,dq,d9,b1,ad⟩;obtain ⟨ch,c6⟩:=aC ad fS cp.out;have d8:jb<w6.heap.size:=zB w6 ⟨jb,3,none⟩ ch))
  all_goals
   go_wp2;go_meet;have hh:=ar.app3r (D.out.rd J.out ad.undrew) dv (HK.out.trans ad.undrew) rfl b0.out aA rfl bl c5 (by simp);exact ⟨a2,q2,x2,_,hh.1,hh.2.1,dq,b1,hh.2.2⟩
 obtain ⟨a2,q2,x2,b7,hj,hp,hr,U,I⟩:=hcut;obtain ⟨y2,rfl⟩:∃ y:World,y=wc:=⟨_,rfl⟩
 clear J D HK HE HC fS lj bd cp;have J:=zx hp;have D:=zx hj;have HK:=zx I;have HE:=zx (b5.out.one a0 I);clear hp hj I;have HIM':Hid (∀ i l' x',Rl (fun r=> .ok ((⟨at_,6,outs,[]++[a2],[],[],⟨[],zV⟩,⟨[],zV⟩,A⟩:Jb),r)) q2 x2 i l' x'→Rl (am (aM at_ outs A)) l none i l' x'):=zx (fun i l' x' hq=>a1.out i l' x' (Rl.bind (Q:=fun a=>fun r=> .ok ((⟨at_,6,outs,[]++[a],[],[],⟨[],zV⟩,⟨[],zV⟩,A⟩:Jb),r)) hr hq));clear a1 hr;have a1:=HIM';clear HIM';have a3:=zx (zA U O.out);clear U O;have O:=a3;clear a3;have bm:Hid (([]++[a2]).length≤101):=zx (by have:=a8.out;simp only[zF,zG,zK] at *;omega);obtain ⟨il2,c4⟩:∃ il,[]++[a2]=il:=⟨_,rfl⟩
 rw[c4] at D a1 bm;clear c4 a8;have a8:=bm;clear bm;have bj:y2.cell? ⟨jb,1,none⟩=some (zW zX 6):=D.out.blk.cell 1;have lj:=D.out.blk.lt;have cq:Hid (Rl (am (aM at_ outs A)) l none (⟨at_,6,outs,il2,[],[],⟨[],zV⟩,⟨[],zV⟩,A⟩:Jb) q2 x2):=zx (a1.out _ _ _ (Rl.stay (fun _=>rfl)));go_wp2;first|go_end0|refine bodyPost_ret (results_none rfl _ _ _) rfl ?_
 exact ⟨rfl,bQ.mk (⟨at_,6,outs,il2,[],[],⟨[],zV⟩,⟨[],zV⟩,A⟩:Jb) _ _ _ q2 x2 D.out J.out cq.out O.out HK.out⟩
end
section
open Go.RowKit Go.Shelf Go.ChangeShapes Go.WideShapes Go.ChangeShapes
theorem Rn.fg:Tryz.prog.globalNamed "foreman/foremanref.Fine" = some 0:=by kernel_rfl
theorem Rn.ft:(Tryz.prog.globals[0]?).map (·.type)=some 47:=by kernel_rfl
theorem Rn.c1:Tryz.prog.cellsOf 34=1:=by kernel_rfl
theorem Rn.c2:Tryz.prog.cellsOf 3=1:=by kernel_rfl
theorem wE {B:List (String×DataW Unit)} {W:World}
  (Z:B.filter (fun x=>x.1 == "foreman/foremanref.Fine")=[("foreman/foremanref.Fine",Rows.laid_foreman_foremanref_Fine)])
  (h:laidMet zy B W) (hs:W.ShapedOpen zy):gH W:=by
 refine ⟨?_,?_⟩
 ·obtain ⟨ps,⟨g',t',cs,fuel,p,q,J,M,A,hd,_,_⟩,_⟩:=iS _ _ Z h
  obtain rfl:=Option.some.inj (Rn.fg.symm.trans J);obtain rfl:=Option.some.inj (Rn.ft.symm.trans M);obtain ⟨y0,y1,n,e,hl,k0,O⟩:=trod_struct2 Tryz.underlying47 hd;have e1:=(Prod.mk.inj e).1;have e2:(Rows.laid_foreman_foremanref_Fine:DataW Unit)= .agg [.lit (.int .i64 0),.lit (.int .i64 (-1))]:=rfl;rw[e2] at e1;obtain ⟨n0,c0,U,_⟩:=DataW.trod_int Tryz.underlying34 k0;obtain ⟨n1,c1,x1,_⟩:=DataW.trod_int Tryz.underlying3 O;rw[U,x1] at e1;injection e1 with e1;injection e1 with D e1;injection e1 with I _;injection D with D;injection D with _ D;injection I with I;injection I with _ I;subst D I;refine ⟨?_,?_⟩
  ·rw[World.var?_cell Rn.fg A 0,←Array.getElem?_toList]
   have:=congrArg (·[0]?) c0;simpa[List.getElem?_take,List.getElem?_drop,Rn.c1] using this
  rw[World.var?_cell Rn.fg A 1,←Array.getElem?_toList];have:=congrArg (·[0]?) c1;simpa[List.getElem?_take,List.getElem?_drop,Rn.c2] using this
 exact Go.Proofs.cell_of_shapedOpen_int (t:=3) (zero:= #[.int .i64 0]) hs (of_decide_eq_true (by kernel_rfl)) (by kernel_rfl) rfl (by kernel_rfl) (by kernel_rfl) Tryz.underlying3
end
end Go.Proofs.YtpagiajlefejcaaGreatDoor
