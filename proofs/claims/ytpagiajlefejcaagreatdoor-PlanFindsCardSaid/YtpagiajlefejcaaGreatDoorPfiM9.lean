/- The cutter's letter, digit, run and next. The cutter: tokens. -/
import Derived.Test.YtpagiajlefejcaaGreatDoorPfiM5
import Derived.Lib.IndexLaws
import Derived.Test.YtpagiajlefejcaaGreatDoorPfiM3
set_option linter.unusedSimpArgs false
set_option linter.unusedVariables false
set_option maxRecDepth 100000
set_option maxHeartbeats 16000000
namespace Go.Proofs.YtpagiajlefejcaaGreatDoor
open Go.Lib renaming hid → zx
open Go.Proofs.Tryz renaming prog → zy
open _root_.Nat renaming le_refl → zz, zero_le → zE
open Go.World renaming block_lt_of_cell? → zB, news_of_block → zJ
open _root_.List renaming length_cons → zG
open aa renaming refl → zN
open ap renaming new → zO
open Go.Value renaming string → zQ, slice → zR, pointer → zS, int → zW
open Go.Ending renaming returned → zT
open Go.IntKind renaming i64 → zX
section
open Go.RowKit Go.BigFrame
attribute [local go_sem] ag ab ae af
theorem lE (b:UInt8) (w:World):Calls zy 199 #[.int .u8 (b.toNat:Int)] w fun e w'=>e=zT (.bool (dW b))∧w=w':=by
 obtain ⟨R,h⟩:∃ R,dW b=R:=⟨_,rfl⟩
 rw[h];have B:Hid (R=(decide (97≤b.toNat)&&decide (b.toNat≤122))):=zx h.symm;clear h;by_cases A:97≤b.toNat
 ·have J:(97:Int)≤(b.toNat:Int):=by omega
  by_cases D:b.toNat≤122
  ·have I:(b.toNat:Int)≤(122:Int):=by omega
   go_enter Tryz.func199,Tryz.ntmps199
   go_wp2;go_ret;exact ⟨by rw[B.out,decide_eq_true A,decide_eq_true D];rfl,rfl⟩
  have I:¬(b.toNat:Int)≤(122:Int):=by omega
  go_enter Tryz.func199,Tryz.ntmps199
  go_wp2;go_ret;exact ⟨by rw[B.out,decide_eq_true A,decide_eq_false D];rfl,rfl⟩
 have J:¬(97:Int)≤(b.toNat:Int):=by omega
 go_enter Tryz.func199,Tryz.ntmps199
 go_wp2;go_ret;exact ⟨by rw[B.out,decide_eq_false A];rfl,rfl⟩
theorem jG (b:UInt8) (w:World):Calls zy 202 #[.int .u8 (b.toNat:Int)] w fun e w'=>e=zT (.bool (dk b))∧w=w':=by
 obtain ⟨R,h⟩:∃ R,dk b=R:=⟨_,rfl⟩
 rw[h];have B:Hid (R=(decide (48≤b.toNat)&&decide (b.toNat≤57))):=zx h.symm;clear h;by_cases A:48≤b.toNat
 ·have J:(48:Int)≤(b.toNat:Int):=by omega
  by_cases D:b.toNat≤57
  ·have I:(b.toNat:Int)≤(57:Int):=by omega
   go_enter Tryz.func202,Tryz.ntmps202
   go_wp2;go_ret;exact ⟨by rw[B.out,decide_eq_true A,decide_eq_true D];rfl,rfl⟩
  have I:¬(b.toNat:Int)≤(57:Int):=by omega
  go_enter Tryz.func202,Tryz.ntmps202
  go_wp2;go_ret;exact ⟨by rw[B.out,decide_eq_true A,decide_eq_false D];rfl,rfl⟩
 have J:¬(48:Int)≤(b.toNat:Int):=by omega
 go_enter Tryz.func202,Tryz.ntmps202
 go_wp2;go_ret;exact ⟨by rw[B.out,decide_eq_false A];rfl,rfl⟩
theorem xN (b:UInt8) (w:World):Calls zy 201 #[.int .u8 (b.toNat:Int)] w fun e w'=>e=zT (.bool (iF b))∧w=w':=by
 obtain ⟨R,B⟩:∃ R,iF b=R:=⟨_,rfl⟩
 rw[B];have J:Hid (R=(dW b||dk b)):=zx B.symm;have A:=zx (lE b w);have I:=zx (jG b w);clear B
 cases h:dW b with
 | true =>
  rw[h] at A;have D:=zx h;clear h I;go_enter Tryz.func201,Tryz.ntmps201
  go_wp2_with fail
  refine A.out.mono ?_;rintro e M ⟨rfl,rfl⟩;go_wp2;go_ret;exact ⟨by rw[J.out,D.out];rfl,rfl⟩
 | false =>
  rw[h] at A;have D:=zx h;clear h;go_enter Tryz.func201,Tryz.ntmps201
  go_wp2_with fail
  refine A.out.mono ?_;rintro e M ⟨rfl,rfl⟩;go_wp2_with fail
  refine I.out.mono ?_;rintro e M ⟨rfl,rfl⟩;go_wp2;go_ret;exact ⟨by rw[J.out,D.out];rfl,rfl⟩
theorem kA (p:UInt8→Bool):∀ (s:Bs) (n:Nat),n≤s.length→(∀ j (_:j<n) (A:j<s.length),p s[j]=true)→(∀ (A:n<s.length),p s[n]=false)→eu p s=n
 | [],n,h,_,_=>by simp at h;rw[h];rfl
 | c::s,0,_,_,B=>by
  unfold eu;have:=B (by simp);rw[if_neg (by simpa using this)]
 | c::s,n+1,h,D,B=>by
  unfold eu;have J:=D 0 (by omega) (by simp);rw[if_pos (by simpa using J),kA p s n (by simpa using h) (fun j I A=>D (j+1) (Nat.succ_lt_succ I) (Nat.succ_lt_succ A)) (fun A=>B (Nat.succ_lt_succ A))]
theorem rh (k:Nat) (he:∀ args w,(callFunc k args).run zy w= .ok (.enter k args) w) (p:UInt8→Bool) (s:Bs) (ad:s.length≤2000000) (w:World) (hf:∀ c:UInt8,Calls zy k #[.int .u8 (c.toNat:Int)] w fun e W'=>e=zT (.bool (p c))∧w=W') :
  Calls zy 200 #[zQ (bs s),.func (.func k) #[] #[]] w fun e w'=>e=zT (zW zX (eu p s:Nat))∧w=w':=by
 have HF:=zx hf;obtain ⟨R,O⟩:∃ R,eu p s=R:=⟨_,rfl⟩
 rw[O];have Z:=zx O;clear hf O;go_enter Tryz.func200,Tryz.ntmps200
 go_wp2;go_loop [5] (fun i=>∃ n:Nat,n≤s.length∧i=zW zX n∧Hid (∀ j (_:j<n) (I:j<s.length),p s[j]=true)) (fun i=>s.length-(intOf i).toNat)
 case atStart=>exact ⟨0,zE _,rfl,zx fun j hj=>absurd hj (by omega)⟩
 obtain ⟨n,hn,rfl,A⟩:=hrel;by_cases D:n<s.length
 ·have hi:(n:Int)<(s.length:Int):=by omega
  have J:=zx (HF.out s[n]);have M:((bs s)[n]'(by rw[ag];exact D))=s[n]:=f4 s n _;generalize hx:s[n]=x at *;have HX:=zx hx;clear hx
  cases B:p x with
  | true =>
   rw[B] at J;have U:=zx B;clear B;go_wp2_with fail
   refine J.out.mono ?_;rintro e W2 ⟨rfl,rfl⟩;go_wp2;go_round
   case rel=>exact ⟨n+1,by omega,by go_num,zx fun j hj I=>by
    by_cases h:j<n
    ·exact A.out j h I
    obtain rfl:j=n:=by omega
    rw[HX.out];exact U.out⟩
   case measure=>simp[intOf];omega
  | false =>
   rw[B] at J;have U:=zx B;clear B;go_wp2_with fail
   refine J.out.mono ?_;rintro e W2 ⟨rfl,rfl⟩;go_wp2;go_ret;exact ⟨by rw[←Z.out,kA p s n hn A.out (fun I=>by rw[HX.out];exact U.out)];rfl,rfl⟩
 have hi:¬(n:Int)<(s.length:Int):=by omega
 go_wp2;go_ret;exact ⟨by rw[←Z.out,kA p s n hn A.out (fun I=>absurd I D)];rfl,rfl⟩
theorem tS (c:UInt8) (t:Bs) (hs:t.length≤1000000) (w:World) (hE:iv w) :
  Calls zy 151 #[zQ (bs (c::t))] w fun e w'=>e=zT (.tuple #[zW zX (aR (c::t)).1,zW zX (aR (c::t)).2])∧w=w':=by
 obtain ⟨s,Z⟩:∃ s,c::t=s:=⟨_,rfl⟩
 have a4:0<s.length:=by rw[←Z];simp
 have ba:s.length≤1000001:=by rw[←Z];simp;omega
 have bj:(0:Int)<(s.length:Int):=by omega
 have a8:((bs s)[0]'(by rw[ag];exact a4))=c:=by rw[f4];subst Z;rfl
 have aA:s.headD 0=c:=by rw[←Z];rfl
 have a0:s.tail=t:=by rw[←Z];rfl
 obtain ⟨R,hR⟩:∃ R,aR s=R:=⟨_,rfl⟩
 rw[Z,hR];unfold aR at hR;rw[aA,a0] at hR;have HR:=zx hR;have HL:=zx (lE c w);have HD:=zx (jG c w);clear hR
 cases hl:dW c with
 | true =>
  rw[hl] at HL;have HX:Hid (R=(1,(eu iF s:Nat))):=zx (by rw[←HR.out,hl];rfl);have a1:=zx (rh 201 (fun _ _=>rfl) iF s (by omega) w (fun c=>xN c w));clear hl HD HR Z aA a0;go_enter Tryz.func151,Tryz.ntmps151
  go_wp2_with fail
  refine HL.out.mono ?_;rintro e U ⟨rfl,rfl⟩;go_wp2_with fail
  refine a1.out.mono ?_;rintro e U ⟨rfl,rfl⟩;go_wp2;go_ret2;exact ⟨by rw[HX.out];rfl,rfl⟩
 | false =>
  rw[hl] at HL
  cases hd:dk c with
  | true =>
   rw[hd] at HD;have HX:Hid (R=(2,(eu dk s:Nat))):=zx (by rw[←HR.out,hl,hd];rfl);have a1:=zx (rh 202 (fun _ _=>rfl) dk s (by omega) w (fun c=>jG c w));clear hl hd HR Z aA a0;go_enter Tryz.func151,Tryz.ntmps151
   go_wp2_with fail
   refine HL.out.mono ?_;rintro e U ⟨rfl,rfl⟩;go_wp2_with fail
   refine HD.out.mono ?_;rintro e U ⟨rfl,rfl⟩;go_wp2_with fail
   refine a1.out.mono ?_;rintro e U ⟨rfl,rfl⟩;go_wp2;go_ret2;exact ⟨by rw[HX.out];rfl,rfl⟩
  | false =>
   rw[hd] at HD;have a2:Hid ((if c=39 then ((3:Int),if Lib.indexByte t 39<0 then 0 else (Lib.indexByte t 39).toNat+2) else (4,bE s an))=R):=zx (by rw[←HR.out,hl,hd];rfl);have a3:c=39↔(c.toNat:Int)=39:=⟨fun h=>by rw[h];rfl,fun h=>UInt8.toNat_inj.1 (by have:(39:UInt8).toNat=39:=rfl;omega)⟩;by_cases ad:c=39
   ·have t1:((c.toNat:Int)==39)=true:=by rw[beq_iff_eq];exact a3.1 ad
    obtain ⟨k,hk⟩:∃ k,Lib.indexByte t 39=k:=⟨_,rfl⟩
    have HX:Hid (R=(3,if k<0 then 0 else k.toNat+2)):=zx (by rw[←a2.out,if_pos ad,hk]);have bk:(bs s).extract 1 s.length=bs t:=by rw[ab,List.take_of_length_le (zz _),←Z];rfl
    have HI:Hid (Calls zy 53 #[zQ (bs t),.int .u8 39] w fun e W'=>e=zT (zW zX k)∧w=W'):=zx ((Tryz.strings_IndexByte (bs t) 39 w).mono fun e W' ⟨h1,h2⟩=>⟨by rw[h1];exact congrArg (fun x=>Ending.returned (zW zX x)) hk,h2.symm⟩);have bd:k≤1000000:=by
     by_cases hn:k<0
     ·omega
     have h1:=(Lib.indexByte_some (l:=t) (c:=39) (o:=k.toNat) (by rw[hk];omega)).1;have:=(List.getElem?_eq_some_iff.1 h1).1;omega
    clear hl hd HR Z aA a0 a2 a3 ad;by_cases a5:k<0
    ·have a9:¬(0:Int)≤k:=by omega
     go_enter Tryz.func151,Tryz.ntmps151
     go_wp2_with fail
     refine HL.out.mono ?_;rintro e U ⟨rfl,rfl⟩;go_wp2_with fail
     refine HD.out.mono ?_;rintro e U ⟨rfl,rfl⟩;go_wp2_with fail
     refine HI.out.mono ?_;rintro e U ⟨rfl,rfl⟩;go_wp2;go_ret2;exact ⟨by rw[HX.out,if_pos a5];rfl,rfl⟩
    have a9:(0:Int)≤k:=by omega
    go_enter Tryz.func151,Tryz.ntmps151
    go_wp2_with fail
    refine HL.out.mono ?_;rintro e U ⟨rfl,rfl⟩;go_wp2_with fail
    refine HD.out.mono ?_;rintro e U ⟨rfl,rfl⟩;go_wp2_with fail
    refine HI.out.mono ?_;rintro e U ⟨rfl,rfl⟩;go_wp2;go_ret2;exact ⟨by rw[HX.out,if_neg (by omega:¬k<0)];exact congrArg (fun x=>Ending.returned (.tuple #[zW zX 3,zW zX x])) (by show k+2=((k.toNat+2:Nat):Int);omega),rfl⟩
   have t1:((c.toNat:Int)==39)=false:=by rw[beq_eq_false_iff_ne];exact fun h=>ad (a3.2 h)
   have HX:Hid (R=(4,bE s an)):=zx (by rw[←a2.out,if_neg ad]);have HP:Hid (∀ m:Bs,Calls zy 146 #[zQ (bs s),zQ (bs m)] w fun e W'=>e=zT (.bool (Lib.hasPrefix s m))∧w=W'):=zx fun m=>(Tryz.strings_HasPrefix (bs s) (bs m) w).mono fun e W' ⟨h1,h2⟩=>⟨h1,h2.symm⟩
   have m0:w.cell? ⟨3,0,none⟩=some (zQ (bs [60,62])):=hE.marks 0 (by decide);have m1:w.cell? ⟨3,1,none⟩=some (zQ (bs [60,61])):=hE.marks 1 (by decide);have m2:w.cell? ⟨3,2,none⟩=some (zQ (bs [62,61])):=hE.marks 2 (by decide);have m3:w.cell? ⟨3,3,none⟩=some (zQ (bs [60])):=hE.marks 3 (by decide);have m4:w.cell? ⟨3,4,none⟩=some (zQ (bs [62])):=hE.marks 4 (by decide);have m5:w.cell? ⟨3,5,none⟩=some (zQ (bs [61])):=hE.marks 5 (by decide);have m6:w.cell? ⟨3,6,none⟩=some (zQ (bs [43])):=hE.marks 6 (by decide);have m7:w.cell? ⟨3,7,none⟩=some (zQ (bs [45])):=hE.marks 7 (by decide);have m8:w.cell? ⟨3,8,none⟩=some (zQ (bs [42])):=hE.marks 8 (by decide);have m9:w.cell? ⟨3,9,none⟩=some (zQ (bs [44])):=hE.marks 9 (by decide);have bb:w.cell? ⟨3,10,none⟩=some (zQ (bs [59])):=hE.marks 10 (by decide);have a7:w.cell? ⟨3,11,none⟩=some (zQ (bs [58])):=hE.marks 11 (by decide);have a6:w.cell? ⟨3,12,none⟩=some (zQ (bs [46])):=hE.marks 12 (by decide);have lm:=zB _ _ m0;clear hl hd HR Z aA a0 a2 a3 ad hE;go_enter Tryz.func151,Tryz.ntmps151
   go_wp2_with fail
   refine HL.out.mono ?_;rintro e U ⟨rfl,rfl⟩;go_wp2_with fail
   refine HD.out.mono ?_;rintro e U ⟨rfl,rfl⟩;go_wp2;go_loop [31] (fun i=>∃ n:Nat,n≤13∧i=zW zX n∧Hid (bE s an=bE s (an.drop n))) (fun i=>13-(intOf i).toNat)
   case atStart=>exact ⟨0,zE _,rfl,zx rfl⟩
   clear m0 m1 m2 m3 m4 m5 m6 m7 m8 m9 bb a7 a6 lm;obtain ⟨n,hn,rfl,I⟩:=hrel;obtain h13|h13:n=13∨n<13:=by omega
   ·subst h13
    go_wp2;go_ret2;exact ⟨by rw[HX.out,I.out];rfl,rfl⟩
   have J:∀ j (h:j<an.length),bE s (an.drop j)=if Lib.hasPrefix s an[j] then an[j].length else bE s (an.drop (j+1)):=fun j h=>by
    rw[List.drop_eq_getElem_cons h];rfl
   obtain rfl|rfl|rfl|rfl|rfl|rfl|rfl|rfl|rfl|rfl|rfl|rfl|rfl:n=0∨n=1∨n=2∨n=3∨n=4∨n=5∨n=6∨n=7∨n=8∨n=9∨n=10∨n=11∨n=12:=by omega
   ·have D:=zx (HP.out [60,62])
    have ix:∀ w,(Instr.index 278 (.agg #[zQ (bs [60,62]),zQ (bs [60,61]),zQ (bs [62,61]),zQ (bs [60]),zQ (bs [62]),zQ (bs [61]),zQ (bs [43]),zQ (bs [45]),zQ (bs [42]),zQ (bs [44]),zQ (bs [59]),zQ (bs [58]),zQ (bs [46])]) (zW zX 0)).run zy w= .ok (zQ (bs [60,62])) w:=fun _=>by kernel_rfl
    have A:=J 0 (by decide);rw[←I.out] at A;have O:=zx A;clear J A I
    cases B:Lib.hasPrefix s [60,62] with
    | true =>
     rw[B] at D;have M:Hid (R=(4,2)):=zx (by rw[HX.out,O.out];exact congrArg (Prod.mk 4) (if_pos B));clear B;go_wp2_with fail
     refine D.out.mono ?_;rintro e U ⟨rfl,rfl⟩;go_wp2;go_ret2;exact ⟨by rw[M.out];rfl,rfl⟩
    | false =>
     rw[B] at D;have M:Hid (bE s an=bE s (an.drop 1)):=zx (O.out.trans (if_neg (by rw[show an[0]=[60,62] from rfl,B];decide)));clear B;go_wp2_with fail
     refine D.out.mono ?_;rintro e U ⟨rfl,rfl⟩;go_wp2;go_round
     case rel=>exact ⟨1,by omega,by go_num,M⟩
     case measure=>simp[intOf]
   ·have D:=zx (HP.out [60,61])
    have ix:∀ w,(Instr.index 278 (.agg #[zQ (bs [60,62]),zQ (bs [60,61]),zQ (bs [62,61]),zQ (bs [60]),zQ (bs [62]),zQ (bs [61]),zQ (bs [43]),zQ (bs [45]),zQ (bs [42]),zQ (bs [44]),zQ (bs [59]),zQ (bs [58]),zQ (bs [46])]) (zW zX 1)).run zy w= .ok (zQ (bs [60,61])) w:=fun _=>by kernel_rfl
    have A:=J 1 (by decide);rw[←I.out] at A;have O:=zx A;clear J A I
    cases B:Lib.hasPrefix s [60,61] with
    | true =>
     rw[B] at D;have M:Hid (R=(4,2)):=zx (by rw[HX.out,O.out];exact congrArg (Prod.mk 4) (if_pos B));clear B;go_wp2_with fail
     refine D.out.mono ?_;rintro e U ⟨rfl,rfl⟩;go_wp2;go_ret2;exact ⟨by rw[M.out];rfl,rfl⟩
    | false =>
     rw[B] at D;have M:Hid (bE s an=bE s (an.drop 2)):=zx (O.out.trans (if_neg (by rw[show an[1]=[60,61] from rfl,B];decide)));clear B;go_wp2_with fail
     refine D.out.mono ?_;rintro e U ⟨rfl,rfl⟩;go_wp2;go_round
     case rel=>exact ⟨2,by omega,by go_num,M⟩
     case measure=>simp[intOf]
   ·have D:=zx (HP.out [62,61])
    have ix:∀ w,(Instr.index 278 (.agg #[zQ (bs [60,62]),zQ (bs [60,61]),zQ (bs [62,61]),zQ (bs [60]),zQ (bs [62]),zQ (bs [61]),zQ (bs [43]),zQ (bs [45]),zQ (bs [42]),zQ (bs [44]),zQ (bs [59]),zQ (bs [58]),zQ (bs [46])]) (zW zX 2)).run zy w= .ok (zQ (bs [62,61])) w:=fun _=>by kernel_rfl
    have A:=J 2 (by decide);rw[←I.out] at A;have O:=zx A;clear J A I
    cases B:Lib.hasPrefix s [62,61] with
    | true =>
     rw[B] at D;have M:Hid (R=(4,2)):=zx (by rw[HX.out,O.out];exact congrArg (Prod.mk 4) (if_pos B));clear B;go_wp2_with fail
     refine D.out.mono ?_;rintro e U ⟨rfl,rfl⟩;go_wp2;go_ret2;exact ⟨by rw[M.out];rfl,rfl⟩
    | false =>
     rw[B] at D;have M:Hid (bE s an=bE s (an.drop 3)):=zx (O.out.trans (if_neg (by rw[show an[2]=[62,61] from rfl,B];decide)));clear B;go_wp2_with fail
     refine D.out.mono ?_;rintro e U ⟨rfl,rfl⟩;go_wp2;go_round
     case rel=>exact ⟨3,by omega,by go_num,M⟩
     case measure=>simp[intOf]
   ·have D:=zx (HP.out [60])
    have ix:∀ w,(Instr.index 278 (.agg #[zQ (bs [60,62]),zQ (bs [60,61]),zQ (bs [62,61]),zQ (bs [60]),zQ (bs [62]),zQ (bs [61]),zQ (bs [43]),zQ (bs [45]),zQ (bs [42]),zQ (bs [44]),zQ (bs [59]),zQ (bs [58]),zQ (bs [46])]) (zW zX 3)).run zy w= .ok (zQ (bs [60])) w:=fun _=>by kernel_rfl
    have A:=J 3 (by decide);rw[←I.out] at A;have O:=zx A;clear J A I
    cases B:Lib.hasPrefix s [60] with
    | true =>
     rw[B] at D;have M:Hid (R=(4,1)):=zx (by rw[HX.out,O.out];exact congrArg (Prod.mk 4) (if_pos B));clear B;go_wp2_with fail
     refine D.out.mono ?_;rintro e U ⟨rfl,rfl⟩;go_wp2;go_ret2;exact ⟨by rw[M.out];rfl,rfl⟩
    | false =>
     rw[B] at D;have M:Hid (bE s an=bE s (an.drop 4)):=zx (O.out.trans (if_neg (by rw[show an[3]=[60] from rfl,B];decide)));clear B;go_wp2_with fail
     refine D.out.mono ?_;rintro e U ⟨rfl,rfl⟩;go_wp2;go_round
     case rel=>exact ⟨4,by omega,by go_num,M⟩
     case measure=>simp[intOf]
   ·have D:=zx (HP.out [62])
    have ix:∀ w,(Instr.index 278 (.agg #[zQ (bs [60,62]),zQ (bs [60,61]),zQ (bs [62,61]),zQ (bs [60]),zQ (bs [62]),zQ (bs [61]),zQ (bs [43]),zQ (bs [45]),zQ (bs [42]),zQ (bs [44]),zQ (bs [59]),zQ (bs [58]),zQ (bs [46])]) (zW zX 4)).run zy w= .ok (zQ (bs [62])) w:=fun _=>by kernel_rfl
    have A:=J 4 (by decide);rw[←I.out] at A;have O:=zx A;clear J A I
    cases B:Lib.hasPrefix s [62] with
    | true =>
     rw[B] at D;have M:Hid (R=(4,1)):=zx (by rw[HX.out,O.out];exact congrArg (Prod.mk 4) (if_pos B));clear B;go_wp2_with fail
     refine D.out.mono ?_;rintro e U ⟨rfl,rfl⟩;go_wp2;go_ret2;exact ⟨by rw[M.out];rfl,rfl⟩
    | false =>
     rw[B] at D;have M:Hid (bE s an=bE s (an.drop 5)):=zx (O.out.trans (if_neg (by rw[show an[4]=[62] from rfl,B];decide)));clear B;go_wp2_with fail
     refine D.out.mono ?_;rintro e U ⟨rfl,rfl⟩;go_wp2;go_round
     case rel=>exact ⟨5,by omega,by go_num,M⟩
     case measure=>simp[intOf]
   ·have D:=zx (HP.out [61])
    have ix:∀ w,(Instr.index 278 (.agg #[zQ (bs [60,62]),zQ (bs [60,61]),zQ (bs [62,61]),zQ (bs [60]),zQ (bs [62]),zQ (bs [61]),zQ (bs [43]),zQ (bs [45]),zQ (bs [42]),zQ (bs [44]),zQ (bs [59]),zQ (bs [58]),zQ (bs [46])]) (zW zX 5)).run zy w= .ok (zQ (bs [61])) w:=fun _=>by kernel_rfl
    have A:=J 5 (by decide);rw[←I.out] at A;have O:=zx A;clear J A I
    cases B:Lib.hasPrefix s [61] with
    | true =>
     rw[B] at D;have M:Hid (R=(4,1)):=zx (by rw[HX.out,O.out];exact congrArg (Prod.mk 4) (if_pos B));clear B;go_wp2_with fail
     refine D.out.mono ?_;rintro e U ⟨rfl,rfl⟩;go_wp2;go_ret2;exact ⟨by rw[M.out];rfl,rfl⟩
    | false =>
     rw[B] at D;have M:Hid (bE s an=bE s (an.drop 6)):=zx (O.out.trans (if_neg (by rw[show an[5]=[61] from rfl,B];decide)));clear B;go_wp2_with fail
     refine D.out.mono ?_;rintro e U ⟨rfl,rfl⟩;go_wp2;go_round
     case rel=>exact ⟨6,by omega,by go_num,M⟩
     case measure=>simp[intOf]
   ·have D:=zx (HP.out [43])
    have ix:∀ w,(Instr.index 278 (.agg #[zQ (bs [60,62]),zQ (bs [60,61]),zQ (bs [62,61]),zQ (bs [60]),zQ (bs [62]),zQ (bs [61]),zQ (bs [43]),zQ (bs [45]),zQ (bs [42]),zQ (bs [44]),zQ (bs [59]),zQ (bs [58]),zQ (bs [46])]) (zW zX 6)).run zy w= .ok (zQ (bs [43])) w:=fun _=>by kernel_rfl
    have A:=J 6 (by decide);rw[←I.out] at A;have O:=zx A;clear J A I
    cases B:Lib.hasPrefix s [43] with
    | true =>
     rw[B] at D;have M:Hid (R=(4,1)):=zx (by rw[HX.out,O.out];exact congrArg (Prod.mk 4) (if_pos B));clear B;go_wp2_with fail
     refine D.out.mono ?_;rintro e U ⟨rfl,rfl⟩;go_wp2;go_ret2;exact ⟨by rw[M.out];rfl,rfl⟩
    | false =>
     rw[B] at D;have M:Hid (bE s an=bE s (an.drop 7)):=zx (O.out.trans (if_neg (by rw[show an[6]=[43] from rfl,B];decide)));clear B;go_wp2_with fail
     refine D.out.mono ?_;rintro e U ⟨rfl,rfl⟩;go_wp2;go_round
     case rel=>exact ⟨7,by omega,by go_num,M⟩
     case measure=>simp[intOf]
   ·have D:=zx (HP.out [45])
    have ix:∀ w,(Instr.index 278 (.agg #[zQ (bs [60,62]),zQ (bs [60,61]),zQ (bs [62,61]),zQ (bs [60]),zQ (bs [62]),zQ (bs [61]),zQ (bs [43]),zQ (bs [45]),zQ (bs [42]),zQ (bs [44]),zQ (bs [59]),zQ (bs [58]),zQ (bs [46])]) (zW zX 7)).run zy w= .ok (zQ (bs [45])) w:=fun _=>by kernel_rfl
    have A:=J 7 (by decide);rw[←I.out] at A;have O:=zx A;clear J A I
    cases B:Lib.hasPrefix s [45] with
    | true =>
     rw[B] at D;have M:Hid (R=(4,1)):=zx (by rw[HX.out,O.out];exact congrArg (Prod.mk 4) (if_pos B));clear B;go_wp2_with fail
     refine D.out.mono ?_;rintro e U ⟨rfl,rfl⟩;go_wp2;go_ret2;exact ⟨by rw[M.out];rfl,rfl⟩
    | false =>
     rw[B] at D;have M:Hid (bE s an=bE s (an.drop 8)):=zx (O.out.trans (if_neg (by rw[show an[7]=[45] from rfl,B];decide)));clear B;go_wp2_with fail
     refine D.out.mono ?_;rintro e U ⟨rfl,rfl⟩;go_wp2;go_round
     case rel=>exact ⟨8,by omega,by go_num,M⟩
     case measure=>simp[intOf]
   ·have D:=zx (HP.out [42])
    have ix:∀ w,(Instr.index 278 (.agg #[zQ (bs [60,62]),zQ (bs [60,61]),zQ (bs [62,61]),zQ (bs [60]),zQ (bs [62]),zQ (bs [61]),zQ (bs [43]),zQ (bs [45]),zQ (bs [42]),zQ (bs [44]),zQ (bs [59]),zQ (bs [58]),zQ (bs [46])]) (zW zX 8)).run zy w= .ok (zQ (bs [42])) w:=fun _=>by kernel_rfl
    have A:=J 8 (by decide);rw[←I.out] at A;have O:=zx A;clear J A I
    cases B:Lib.hasPrefix s [42] with
    | true =>
     rw[B] at D;have M:Hid (R=(4,1)):=zx (by rw[HX.out,O.out];exact congrArg (Prod.mk 4) (if_pos B));clear B;go_wp2_with fail
     refine D.out.mono ?_;rintro e U ⟨rfl,rfl⟩;go_wp2;go_ret2;exact ⟨by rw[M.out];rfl,rfl⟩
    | false =>
     rw[B] at D;have M:Hid (bE s an=bE s (an.drop 9)):=zx (O.out.trans (if_neg (by rw[show an[8]=[42] from rfl,B];decide)));clear B;go_wp2_with fail
     refine D.out.mono ?_;rintro e U ⟨rfl,rfl⟩;go_wp2;go_round
     case rel=>exact ⟨9,by omega,by go_num,M⟩
     case measure=>simp[intOf]
   ·have D:=zx (HP.out [44])
    have ix:∀ w,(Instr.index 278 (.agg #[zQ (bs [60,62]),zQ (bs [60,61]),zQ (bs [62,61]),zQ (bs [60]),zQ (bs [62]),zQ (bs [61]),zQ (bs [43]),zQ (bs [45]),zQ (bs [42]),zQ (bs [44]),zQ (bs [59]),zQ (bs [58]),zQ (bs [46])]) (zW zX 9)).run zy w= .ok (zQ (bs [44])) w:=fun _=>by kernel_rfl
    have A:=J 9 (by decide);rw[←I.out] at A;have O:=zx A;clear J A I
    cases B:Lib.hasPrefix s [44] with
    | true =>
     rw[B] at D;have M:Hid (R=(4,1)):=zx (by rw[HX.out,O.out];exact congrArg (Prod.mk 4) (if_pos B));clear B;go_wp2_with fail
     refine D.out.mono ?_;rintro e U ⟨rfl,rfl⟩;go_wp2;go_ret2;exact ⟨by rw[M.out];rfl,rfl⟩
    | false =>
     rw[B] at D;have M:Hid (bE s an=bE s (an.drop 10)):=zx (O.out.trans (if_neg (by rw[show an[9]=[44] from rfl,B];decide)));clear B;go_wp2_with fail
     refine D.out.mono ?_;rintro e U ⟨rfl,rfl⟩;go_wp2;go_round
     case rel=>exact ⟨10,by omega,by go_num,M⟩
     case measure=>simp[intOf]
   ·have D:=zx (HP.out [59])
    have ix:∀ w,(Instr.index 278 (.agg #[zQ (bs [60,62]),zQ (bs [60,61]),zQ (bs [62,61]),zQ (bs [60]),zQ (bs [62]),zQ (bs [61]),zQ (bs [43]),zQ (bs [45]),zQ (bs [42]),zQ (bs [44]),zQ (bs [59]),zQ (bs [58]),zQ (bs [46])]) (zW zX 10)).run zy w= .ok (zQ (bs [59])) w:=fun _=>by kernel_rfl
    have A:=J 10 (by decide);rw[←I.out] at A;have O:=zx A;clear J A I
    cases B:Lib.hasPrefix s [59] with
    | true =>
     rw[B] at D;have M:Hid (R=(4,1)):=zx (by rw[HX.out,O.out];exact congrArg (Prod.mk 4) (if_pos B));clear B;go_wp2_with fail
     refine D.out.mono ?_;rintro e U ⟨rfl,rfl⟩;go_wp2;go_ret2;exact ⟨by rw[M.out];rfl,rfl⟩
    | false =>
     rw[B] at D;have M:Hid (bE s an=bE s (an.drop 11)):=zx (O.out.trans (if_neg (by rw[show an[10]=[59] from rfl,B];decide)));clear B;go_wp2_with fail
     refine D.out.mono ?_;rintro e U ⟨rfl,rfl⟩;go_wp2;go_round
     case rel=>exact ⟨11,by omega,by go_num,M⟩
     case measure=>simp[intOf]
   ·have D:=zx (HP.out [58])
    have ix:∀ w,(Instr.index 278 (.agg #[zQ (bs [60,62]),zQ (bs [60,61]),zQ (bs [62,61]),zQ (bs [60]),zQ (bs [62]),zQ (bs [61]),zQ (bs [43]),zQ (bs [45]),zQ (bs [42]),zQ (bs [44]),zQ (bs [59]),zQ (bs [58]),zQ (bs [46])]) (zW zX 11)).run zy w= .ok (zQ (bs [58])) w:=fun _=>by kernel_rfl
    have A:=J 11 (by decide);rw[←I.out] at A;have O:=zx A;clear J A I
    cases B:Lib.hasPrefix s [58] with
    | true =>
     rw[B] at D;have M:Hid (R=(4,1)):=zx (by rw[HX.out,O.out];exact congrArg (Prod.mk 4) (if_pos B));clear B;go_wp2_with fail
     refine D.out.mono ?_;rintro e U ⟨rfl,rfl⟩;go_wp2;go_ret2;exact ⟨by rw[M.out];rfl,rfl⟩
    | false =>
     rw[B] at D;have M:Hid (bE s an=bE s (an.drop 12)):=zx (O.out.trans (if_neg (by rw[show an[11]=[58] from rfl,B];decide)));clear B;go_wp2_with fail
     refine D.out.mono ?_;rintro e U ⟨rfl,rfl⟩;go_wp2;go_round
     case rel=>exact ⟨12,by omega,by go_num,M⟩
     case measure=>simp[intOf]
   have D:=zx (HP.out [46]);have ix:∀ w,(Instr.index 278 (.agg #[zQ (bs [60,62]),zQ (bs [60,61]),zQ (bs [62,61]),zQ (bs [60]),zQ (bs [62]),zQ (bs [61]),zQ (bs [43]),zQ (bs [45]),zQ (bs [42]),zQ (bs [44]),zQ (bs [59]),zQ (bs [58]),zQ (bs [46])]) (zW zX 12)).run zy w= .ok (zQ (bs [46])) w:=fun _=>by kernel_rfl
   have A:=J 12 (by decide);rw[←I.out] at A;have O:=zx A;clear J A I
   cases B:Lib.hasPrefix s [46] with
   | true =>
    rw[B] at D;have M:Hid (R=(4,1)):=zx (by rw[HX.out,O.out];exact congrArg (Prod.mk 4) (if_pos B));clear B;go_wp2_with fail
    refine D.out.mono ?_;rintro e U ⟨rfl,rfl⟩;go_wp2;go_ret2;exact ⟨by rw[M.out];rfl,rfl⟩
   | false =>
    rw[B] at D;have M:Hid (bE s an=bE s (an.drop 13)):=zx (O.out.trans (if_neg (by rw[show an[12]=[46] from rfl,B];decide)));clear B;go_wp2_with fail
    refine D.out.mono ?_;rintro e U ⟨rfl,rfl⟩;go_wp2;go_round
    case rel=>exact ⟨13,by omega,by go_num,M⟩
    case measure=>simp[intOf]
theorem ze:(Tryz.prog.info? 193).map (fun i=>(i.zero,i.size,i.bytes))=some (some (.agg #[zW zX 0,zQ ⟨#[]⟩,zW zX 0]),3,32):=by kernel_rfl
theorem iL {P:Program} {T:TypeId} (I:P.underlying T=some .string) (s:Bs) (h:Nat) (A:h≤s.length) (W:World) :
  (Instr.slice T (zQ (bs s)) (some (zW zX (h:Int))) none none).run P W= .ok (zQ (bs (s.drop h))) W:=by
 have B:(h:Int)≤(s.length:Int):=by omega
 have e:(bs s).extract h s.length=bs (s.drop h):=by rw[ab,List.take_of_length_le (zz _)]
 rw[←e];have J:h≤(bs s).size:=by rw[ag];exact A
 have D:(h:Int)≤((bs s).size:Int):=by rw[ag];exact B
 go_simp
def xO (R:Except (Int×Int) (List Tk)) (h:Nat) (e:Ending) (w':World):Prop:=match R with
 | .ok l=>∃ A c,e=zT (.tuple #[zR A l.length c,.nilIface])∧w'.ownsRow h 193 3 (zR A l.length c) l.length (bY l)
 | .error x=>∃ B,e=zT (.tuple #[zR none 0 0,.iface 136 (zS (some ⟨B,0,none⟩))])∧ap w' B 137 #[zW zX x.1,zW zX x.2]
theorem fB (h:List Tk) (k:Int) (u:Bs) (i:Int):bY (h++[⟨k,u,i⟩])=bY h++[zW zX k,zQ (bs u),zW zX i]:=by simp[bY,nL]
theorem qm (s:Bs) (hs:s.length≤1000000) (w:World) (hE:iv w) :
  Calls zy 104 #[zQ (bs s)] w fun e w'=>xO (kn s) w.heap.size e w'∧aa [] w w':=by
 obtain ⟨i0,hi,bl,bq,bo⟩:=info_parts ze;obtain ⟨R,hR⟩:∃ R,kn s=R:=⟨_,rfl⟩
 rw[hR];unfold kn at hR;have HR:=zx hR;have HE:=zx hE;clear hR hE;go_enter Tryz.func104,Tryz.ntmps104
 go_wp2;go_loopw [4,5] (fun v i wr=>∃ (n f:Nat) (B:List Tk),n≤s.length∧i=zW zX n∧s.length-n≤f∧B.length≤400∧Hid (cQ f (s.drop n) n B=R)∧wr.ownsRow w.heap.size 193 3 v B.length (bY B)∧aa [] w wr) (fun _ i _=>s.length-(intOf i).toNat)
 case atStart=>exact ⟨0,s.length,[],zE _,rfl,zz _,by simp,HR,World.ownsRow_nil _ _ _ _,zN _ _⟩
 clear HR;obtain ⟨n,f,B,hn,rfl,hf,a8,HR,a3,hk⟩:=hrel;obtain ⟨A,cv,rfl,-⟩:=ao a3;have HO:=zx a3;have HK:=zx hk;have a5:=zx (show B.length+1≤maxLen∧(B.length+1)*32≤140737488355328 by simp only[maxLen];omega);have bn:=zx (show w.heap.size≤wr.heap.size+1 from Nat.le_succ_of_le hk.size);clear a3 hk;by_cases bj:n<s.length
 ·have b1:(n:Int)<(s.length:Int):=by omega
  obtain ⟨f,rfl⟩:∃ m,f=m+1:=⟨f-1,by omega⟩
  have ba:((bs s)[n]'(by rw[ag];exact bj))=s[n]:=f4 s n _;have J:s.drop n=s[n]::s.drop (n+1):=List.drop_eq_getElem_cons bj;have a7:=fun W=>iL (P:=zy) Tryz.underlying9 s n hn W
  obtain ⟨c,hc⟩:∃ c,s[n]=c:=⟨_,rfl⟩
  obtain ⟨t,ht⟩:∃ t,s.drop (n+1)=t:=⟨_,rfl⟩
  rw[hc] at ba J;rw[ht] at J;rw[J] at a7;have b0:t.length+n+1=s.length:=by rw[←ht,List.length_drop];omega
  have a1:c=32↔(c.toNat:Int)=32:=⟨fun h=>by rw[h];rfl,fun h=>UInt8.toNat_inj.1 (by have:(32:UInt8).toNat=32:=rfl;omega)⟩;have ad:c=10↔(c.toNat:Int)=10:=⟨fun h=>by rw[h];rfl,fun h=>UInt8.toNat_inj.1 (by have:(10:UInt8).toNat=10:=rfl;omega)⟩;have O:Hid ((if c=32∨c=10 then cQ f t (n+1) B
 else if (aR (c::t)).2=0 then .error (3,(n:Int))
 else if B.length=400 then .error (4,(n:Int))
 else cQ f ((c::t).drop (aR (c::t)).2) (n+(aR (c::t)).2) (B++[⟨(aR (c::t)).1,(c::t).take (aR (c::t)).2,n⟩]))=R):=zx (by rw[←HR.out,J];rfl)
  have HT:=zx ht;have HD:=zx J;clear HR hc ht;by_cases M:c=32
  ·have t1:((c.toNat:Int)==32)=true:=by rw[beq_iff_eq];exact a1.1 M
   have HQ:Hid (cQ f (s.drop (n+1)) (n+1) B=R):=zx (by rw[HT.out,←O.out,if_pos (.inl M)]);clear a1 ad M O J a7;go_wp2;go_roundw
   case rel=>exact ⟨n+1,f,B,by omega,by go_num,by omega,a8,HQ,HO.out,HK.out⟩
   case measure=>simp[intOf];omega
  have t1:((c.toNat:Int)==32)=false:=by rw[beq_eq_false_iff_ne];exact fun h=>M (a1.2 h)
  by_cases U:c=10
  ·have t2:((c.toNat:Int)==10)=true:=by rw[beq_iff_eq];exact ad.1 U
   have HQ:Hid (cQ f (s.drop (n+1)) (n+1) B=R):=zx (by rw[HT.out,←O.out,if_pos (.inr U)]);clear a1 ad M U O J a7;go_wp2;go_roundw
   case rel=>exact ⟨n+1,f,B,by omega,by go_num,by omega,a8,HQ,HO.out,HK.out⟩
   case measure=>simp[intOf];omega
  have t2:((c.toNat:Int)==10)=false:=by rw[beq_eq_false_iff_ne];exact fun h=>U (ad.2 h)
  have a6:Hid ((if (aR (c::t)).2=0 then .error (3,(n:Int))
 else if B.length=400 then .error (4,(n:Int))
 else cQ f ((c::t).drop (aR (c::t)).2) (n+(aR (c::t)).2) (B++[⟨(aR (c::t)).1,(c::t).take (aR (c::t)).2,n⟩]))=R):=zx (by rw[←O.out];exact (if_neg (fun h=>h.elim M U)).symm)
  have HN:=zx (tS c t (by omega) wr (HE.out.quiet HK.out));have bm:=kV c t;obtain ⟨km,bk⟩:∃ km,aR (c::t)=km:=⟨_,rfl⟩
  obtain ⟨k,m⟩:=km;rw[bk] at HN a6 bm;simp only[zG] at bm;clear a1 ad M U O J bk;by_cases hm:m=0
  ·subst hm
   have HX:Hid (R= .error (3,(n:Int))):=zx (by rw[←a6.out];exact if_pos rfl);go_wp2_with fail
   refine HN.out.mono ?_;rintro e w2 ⟨rfl,rfl⟩;go_wp2;go_ret2;exact ⟨by rw[HX.out];exact ⟨_,rfl,zO _ _ _⟩,HK.out.alloc _⟩
  have m0:((m:Int)==0)=false:=by rw[beq_eq_false_iff_ne];omega
  by_cases h4:B.length=400
  ·have HX:Hid (R= .error (4,(n:Int))):=zx (by rw[←a6.out];exact (if_neg hm).trans (if_pos h4))
   have a0:((B.length:Int)==400)=true:=by rw[beq_iff_eq];omega
   go_wp2_with fail
   refine HN.out.mono ?_;rintro e w2 ⟨rfl,rfl⟩;go_wp2;go_ret2;exact ⟨by rw[HX.out];exact ⟨_,rfl,zO _ _ _⟩,HK.out.alloc _⟩
  have a0:((B.length:Int)==400)=false:=by rw[beq_eq_false_iff_ne];omega
  have bb:=fun W=>jv (P:=zy) Tryz.underlying9 s n (n+m) (by omega) (by omega) W
  have bA:(s.take (n+m)).drop n=(c::t).take m:=by rw[List.drop_take,HD.out,show n+m-n=m by omega]
  rw[bA,show ((n+m:Nat):Int)=(n:Int)+(m:Int) by omega] at bb;obtain ⟨u,hu⟩:∃ u,(c::t).take m=u:=⟨_,rfl⟩
  rw[hu] at bb;have HQ:Hid (cQ f (s.drop (n+m)) (n+m) (B++[⟨k,u,(n:Int)⟩])=R):=zx (by
   rw[←a6.out,←hu,show s.drop (n+m)=(c::t).drop m by rw[←HD.out,List.drop_drop]];exact ((if_neg hm).trans (if_neg h4)).symm)
  clear bA hu;go_wp2_with fail
  refine HN.out.mono ?_;rintro e w2 ⟨rfl,rfl⟩;go_wp2_with (at_builtin;refine wpList_append_lies _ rfl _ _ 185 rfl _ 193 i0 _ 3 32 Tryz.underlying185 hi bl bq bo rfl (by decide) _ B.length (bY B) rfl (HO.out.alloc _) ⟨wr.heap.size,0,none⟩ 1 1 [zW zX k,zQ (bs u),zW zX n] rfl rfl (zJ (heap_alloc_new _ _)) (by simp[Value.oneCell']) (by decide) a5.out.1 a5.out.2 (by simp;exact bn.out) _ rfl ?_;intro gw bB w8 D I aA a4)
  have bd:=zx ((HK.out.alloc _).grown I (fun g hg=> .inr (HO.out.lt g hg).1));rw[←fB] at D;have a9:=zx D;have a2:(B++[⟨k,u,(n:Int)⟩]:List Tk).length=B.length+1:=by simp
  have Z:=zx a2;clear D I aA a4 a2 bb a7;go_wp2;go_roundw
  case rel=>exact ⟨n+m,f,B++[⟨k,u,(n:Int)⟩],by omega,by go_num,by omega,by rw[Z.out];omega,HQ,by rw[Z.out];exact a9.out,bd.out⟩
  case measure=>simp[intOf];omega
 ·obtain rfl:n=s.length:=by omega
  have HX:Hid (R= .ok (B++[⟨5,[],(s.length:Int)⟩])):=zx (by
   rw[←HR.out,List.drop_of_length_le (zz _)];cases f<;>rfl)
  have a2:(B++[⟨5,[],(s.length:Int)⟩]:List Tk).length=B.length+1:=by simp
  have Z:=zx a2;clear a2 HR;go_wp2_with (at_builtin;refine wpList_append_lies _ rfl _ _ 185 rfl _ 193 i0 _ 3 32 Tryz.underlying185 hi bl bq bo rfl (by decide) _ B.length (bY B) rfl (HO.out.alloc _) ⟨wr.heap.size,0,none⟩ 1 1 [zW zX 5,zQ (bs []),zW zX s.length] rfl rfl (zJ (heap_alloc_new _ _)) (by simp[Value.oneCell']) (by decide) a5.out.1 a5.out.2 (by simp;exact bn.out) _ rfl ?_;intro gw bB w8 D I aA a4)
  have bd:=zx ((HK.out.alloc _).grown I (fun g hg=> .inr (HO.out.lt g hg).1));rw[←fB] at D;have a9:=zx D;clear D I aA a4;go_wp2;go_ret2;exact ⟨by rw[HX.out];exact ⟨_,_,by rw[Z.out];rfl,by rw[Z.out];exact a9.out⟩,bd.out⟩
end
end Go.Proofs.YtpagiajlefejcaaGreatDoor
