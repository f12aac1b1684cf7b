/- table: RightValue, Less. What the reference leans on: Fine, and internal/bytealg.MaxLen. A text in ', trimmed. The reference's low, dig, in. -/
import Derived.Test.YtpagiajlefejcaaGreatDoorPfiM1
import Derived.Lib.OthersKept
import Derived.RowKit
import Derived.Lib.TrimByte
import Derived.Test.YtpagiajlefejcaaGreatDoorProg
import Derived.Test.YtpagiajlefejcaaGreatDoorRows
import Derived.Lib.LaidTab
import Derived.LaidLaws
import Derived.LaidSub
import Derived.LaidMore
import Derived.Shelf.Vars
import Derived.HandedShaped
set_option linter.unusedSimpArgs false
set_option linter.unusedVariables false
set_option maxRecDepth 100000
set_option maxHeartbeats 16000000
namespace Go.Proofs.YtpagiajlefejcaaGreatDoor
open Go.Lib renaming hid → zx
open Go.Proofs.Tryz renaming prog → zy
open _root_.Nat renaming le_refl → zz, zero_le → zE
open _root_.List renaming length_cons → zG, getElem_mem → zH
open aa renaming refl → zN
open ap renaming new → zO
open Go.Value renaming string → zQ, pointer → zS, int → zW
open Go.Ending renaming returned → zT
open Go.Obj renaming cells → zU
open Go.IntKind renaming i64 → zX
section
open Go.RowKit
attribute [local go_sem] ag ab ae af
def rF (r:Nat):Bool:=decide (r<32)||decide (126<r)||decide (r=39)
theorem pQ (s:ByteArray) (A:Nat) (h:128≤(s.get! (A+0)).toNat):128≤(Utf8.decode s A).1:=by
 unfold Utf8.decode;simp only[Utf8.runeError,ge_iff_le];split
 ·omega
 repeat' split
 all_goals simp only[Bool.and_eq_true,decide_eq_true_eq] at *
 all_goals omega
theorem gO (r:Nat) (B:r<2147483648) (w:World) :
    Calls zy 49 #[.int .i32 (r:Int)] w fun e w'=>e=zT (.bool (rF r))∧w=w':=by
  have D:decide ((r:Int)<32)=decide (r<32):=by rw[decide_eq_decide];omega
  have A:decide ((126:Int)<(r:Int))=decide (126<r):=by rw[decide_eq_decide];omega
  have I:((r:Int)==39)=decide (r=39):=by rw[Bool.eq_iff_iff];simp;omega
  have h:Hid (rF r=(decide (r<32)||decide (126<r)||decide (r=39))):=rfl;go_enter Tryz.func49,Tryz.ntmps49
  go_wp2
  all_goals go_ret
  all_goals refine ⟨?_,rfl⟩
  all_goals rw[h.out]
  all_goals first
    | rfl
    | (show Ending.returned (.bool true)=zT (.bool _)
       congr 2
       simp_all)
theorem yW (s:Bs) (A:Nat) (h:A<s.length):(bs s).get! (A+0)=s[A]:=by
 rw[Nat.add_zero];show s.toArray[A]! = _;rw[getElem!_pos s.toArray A (by simpa using h)];simp
theorem nO {w:World} {k j:Nat} (s:ByteArray) (p:Nat) (h:j≠k):(w.iterAt k s p).heap[j]? = w.heap[j]?:=by
 unfold World.iterAt;simp[Ne.symm h]
theorem ml (s:Bs) (w:World) :
  Calls zy 167 #[zQ (bs s),.func (.func 49) #[] #[],.bool true] w fun e w'=>(∃ n:Int,e=zT (zW zX n)∧decide (0≤n)=s.any eL)∧aa [] w w':=by
 go_enter Tryz.func167,Tryz.ntmps167
 go_wp2;have a3:(w.iter (bs s) 0).heap[w.heap.size]? = some (.stringIter (bs s) 0):=World.iter_heap _ _ _;have a7:aa [] w (w.iter (bs s) 0):=(zN [] w).alloc _;have a0:=zx a3;have a9:=zx a7;clear a3 a7;go_loopw [11] (fun _ wr=>∃ A:Nat,A≤s.length∧Hid (∀ j (hj:j<A) (hl:j<s.length),eL s[j]=false)∧wr.heap[w.heap.size]? = some (.stringIter (bs s) A)∧aa [] w wr) (fun _ wr=>s.length-wr.iterPos w.heap.size)
 case atStart=>exact ⟨0,zE _,fun j hj=>absurd hj (by omega),a0.out,a9.out⟩
 clear a0 a9;obtain ⟨A,bd,a5,J,Z⟩:=hrel;have bk:w.heap.size<wr.heap.size:=(Array.getElem?_eq_some_iff.1 J).1;by_cases hp:A<s.length
 ·have hp':A<(bs s).size:=by rw[ag];exact hp
  have a8:∀ ty,(Instr.next (zS (some ⟨w.heap.size,0,none⟩)) true ty).run zy wr=_:=fun ty=>Lib.run_next_any_at wr w.heap.size (bs s) A ty J hp'
  have O:=Lib.iterAt_heap wr w.heap.size (bs s) A (A+(Utf8.decode (bs s) A).2) J;have U:aa [] w (wr.iterAt w.heap.size (bs s) (A+(Utf8.decode (bs s) A).2)):=Z.trans' (L':=[w.heap.size]) ⟨rfl,rfl,by rw[Lib.iterAt_size];exact zz _,fun k hk hn=>nO _ _ (by simpa using hn)⟩ (fun x hx hl=>by simp at hx;omega);have a4:=yW s A hp;have a1:(Utf8.decode (bs s) A).1<2147483648:=by have:=decode_le (bs s) A;omega
  have a6:wr.iterPos w.heap.size=A:=iterPos_of J;have bb:=zx a6;by_cases hA:(s[A]).toNat<128
  ·have hd:Utf8.decode (bs s) A=(s[A].toNat,1):=decode_ascii (bs s) A hp' (by rw[f4];exact hA)
   rw[hd] at a8 O U;have a2:=zx O;have aA:=zx U;generalize hb:s[A]=b at *;have HB:=zx hb;clear O U hb hd a4 a1 J Z a6
   cases B:eL b with
   | true =>
    have hr:rF b.toNat=true:=B;have I:=fun W=>gO b.toNat (by omega) W
    rw[hr] at I;have ad:=zx I;have D:s.any eL=true:=List.any_eq_true.2 ⟨s[A],zH hp,by rw[HB.out];exact B⟩;have M:=zx D;clear hr I B D;go_wp2_with (go_at_call 49;refine (ad.out _).mono ?_;rintro e w5 ⟨rfl,rfl⟩)
    go_ret;exact ⟨⟨(A:Int),rfl,by rw[M.out];simp⟩,aA.out⟩
   | false =>
    have hr:rF b.toNat=false:=B;have I:=fun W=>gO b.toNat (by omega) W
    rw[hr] at I;have ad:=zx I;have hno':Hid (∀ j (hj:j<A+1) (hl:j<s.length),eL s[j]=false):=fun j hj hl=>by
     by_cases h:j<A
     ·exact a5.out j h hl
     obtain rfl:j=A:=by omega
     exact (congrArg eL HB.out).trans B
    clear hr I B a5;go_wp2_with (go_at_call 49;refine (ad.out _).mono ?_;rintro e w5 ⟨rfl,rfl⟩)
    go_roundw
    case rel=>exact ⟨A+1,by omega,hno',a2.out,aA.out⟩
    case measure=>rw[iterPos_of a2.out,bb.out];omega
  have bj:=pQ (bs s) A (by rw[a4];omega);have B:eL s[A]=true:=by unfold eL;simp;omega
  have D:s.any eL=true:=List.any_eq_true.2 ⟨s[A],zH hp,B⟩;generalize Utf8.decode (bs s) A=dd at *;have hr:rF dd.1=true:=by unfold rF;simp;omega
  have I:=fun W=>gO dd.1 a1 W
  rw[hr] at I;have ad:=zx I;have M:=zx D;have aA:=zx U;clear hr I B D U O a4 a6 J Z;go_wp2_with (go_at_call 49;refine (ad.out _).mono ?_;rintro e w5 ⟨rfl,rfl⟩)
  go_ret;exact ⟨⟨(A:Int),rfl,by rw[M.out];simp⟩,aA.out⟩
 have a8:∀ ty,(Instr.next (zS (some ⟨w.heap.size,0,none⟩)) true ty).run zy wr=_:=fun ty=>Lib.run_next_end_at wr w.heap.size (bs s) A ty J (by rw[ag];exact hp)
 have D:s.any eL=false:=by
  rw[List.any_eq_false];intro x hx;obtain ⟨j,hj,rfl⟩:=List.getElem_of_mem hx;rw[a5.out j (by omega) hj];decide
 have M:=zx D;have ba:=zx Z;clear D Z J;go_wp2;go_ret;exact ⟨⟨-1,rfl,by rw[M.out];rfl⟩,ba.out⟩
theorem ko (s:Bs) (w:World) :
  Calls zy 48 #[zQ (bs s),.func (.func 49) #[] #[]] w fun e w'=>e=zT (.bool (s.any eL))∧aa [] w w':=by
 have M:=zx (ml s);have D:Calls zy 114 #[zQ (bs s),.func (.func 49) #[] #[]] w fun e w'=>(∃ n:Int,e=zT (zW zX n)∧decide (0≤n)=s.any eL)∧aa [] w w':=by
  go_enter Tryz.func114,Tryz.ntmps114
  go_wp2_with (go_at_call 167;refine (M.out _).mono ?_;rintro e J ⟨⟨n,rfl,h⟩,A⟩)
  have B:=zx h;clear h;go_ret;exact ⟨⟨n,rfl,B.out⟩,A⟩
 have I:=zx D;clear D;go_enter Tryz.func48,Tryz.ntmps48
 go_wp2_with fail
 refine I.out.mono ?_;rintro e J ⟨⟨n,rfl,h⟩,A⟩;have B:=zx h;clear h;go_wp2;go_ret;exact ⟨by rw[←B.out];rfl,A⟩
theorem dY (v:Vl) (w:World) :
  Calls zy 8 #[wU v] w fun e w'=>e=zT (.bool (mf v))∧aa [] w w':=by
 obtain ⟨k,n,s⟩:=v;show Calls _ _ #[.agg #[zW zX k,zW zX n,zQ (bs s)]] w _;have O:=zx (ko s);obtain ⟨R,A⟩:∃ R,mf ⟨k,n,s⟩=R:=⟨_,rfl⟩
 rw[A];by_cases h:k=1
 ·have J:(k==1)=true:=by rw[h];rfl
  have D:Hid (R=((s==[])&&decide (-1000000000≤n)&&decide (n≤1000000000))):=zx (A.symm.trans (if_pos h));clear h A;go_enter Tryz.func8,Tryz.ntmps8
  go_wp2
  all_goals go_ret
  all_goals refine ⟨?_,(zN _ _).alloc _⟩
  all_goals rw[D.out]
  all_goals refine congrArg (fun b=>Ending.returned (.bool b)) (?_:_=_)
  all_goals first|rfl|(simp_all;done)|(simp_all;omega)|(simp_all;intros;omega)|(simp_all;intros;exfalso;omega)
 have J:(k==1)=false:=by rw[beq_eq_false_iff_ne];exact h
 by_cases B:k=2
 ·have I:(k==2)=true:=by rw[B];rfl
  have D:Hid (R=(decide (n=0)&&decide (s.length≤16) && !s.any eL)):=zx (A.symm.trans ((if_neg h).trans (if_pos B)));clear h B A;go_enter Tryz.func8,Tryz.ntmps8
  go_wp2_with (go_at_call 48;refine (O.out _).mono ?_;rintro e U ⟨rfl,M⟩)
  all_goals go_ret
  all_goals refine ⟨?_,by first|exact (((zN _ _).alloc _).trans M)|exact ((zN _ _).alloc _)⟩
  all_goals rw[D.out]
  all_goals refine congrArg (fun b=>Ending.returned (.bool b)) (?_:_=_)
  all_goals first|rfl|(simp_all;done)|(simp_all;omega)|(simp_all;intros;omega)|(simp_all;intros;exfalso;omega)
 have I:(k==2)=false:=by rw[beq_eq_false_iff_ne];exact B
 have D:Hid (R=false):=zx (A.symm.trans ((if_neg h).trans (if_neg B)));clear h B A;go_enter Tryz.func8,Tryz.ntmps8
 go_wp2;go_ret;exact ⟨by rw[D.out];rfl,(zN _ _).alloc _⟩
end
section
open Go.RowKit
def dM (w:World):Prop:=w.cell? ⟨0,0,none⟩=some (zW zX 0)∧w.cell? ⟨0,1,none⟩=some (zW zX (-1))
theorem dM.keep {w w':World} {L:List Nat} (h:dM w) (A:aa L w w') (B:0∉L):dM w':=⟨A.cell_of h.1 B,A.cell_of h.2 B⟩
structure gH (w:World):Prop where
 fine:dM w
 mlen:∃ m,w.cell? ⟨5,0,none⟩=some (zW zX m)
theorem gH.keep {w w':World} {b:Nat} (h:gH w) (A:aa [b] w w') (I:0≠b) (D:5≠b):gH w' :=
 ⟨h.fine.keep A (by simpa using I),by obtain ⟨m,B⟩:=h.mlen;exact ⟨m,A.cell_of B (by simpa using D)⟩⟩
theorem gH.quiet {w w':World} (h:gH w) (A:aa [] w w'):gH w' :=
 ⟨h.fine.keep A (by simp),by obtain ⟨m,B⟩:=h.mlen;exact ⟨m,A.cell_of B (by simp)⟩⟩
end
section
theorem pq {w:Bs} (h:(39:UInt8)∉w):Lib.trimB (39::(w++[39])) 39=w:=by
 unfold Lib.trimB;have D:Lib.trimRightB (39::(w++[39])) 39=if w=[] then [] else 39::w:=by
  unfold Lib.trimRightB;by_cases e:w=[]
  ·subst e;rfl
  rw[if_neg e];obtain ⟨c,I⟩:∃ c,w.getLast? = some c:=by
   cases B:w.getLast? with
   | none=>exact absurd (List.getLast?_eq_none_iff.1 B) e
   | some c=>exact ⟨c,rfl⟩
  obtain ⟨u,rfl⟩:=List.getLast?_eq_some_iff.1 I;have A:c≠39:=fun e=>h (by simp[e])
  simp[A]
 rw[D];unfold Lib.trimLeftB;by_cases e:w=[]
 ·subst e;rfl
 rw[if_neg e]
 cases w with
 | nil=>exact absurd rfl e
 | cons c t =>
  have A:(c==39)=false:=by rw[beq_eq_false_iff_ne];intro e;exact h (by simp[e])
  simp[List.dropWhile,A]
end
section
open Go.RowKit
attribute [local go_sem] ag ab ae af
def jK (b:UInt8):Bool:=decide (97≤b.toNat)&&decide (b.toNat≤122)
theorem io (b:UInt8) (w:World):Calls zy 55 #[.int .u8 (b.toNat:Int)] w fun e w'=>e=zT (.bool (jK b))∧w=w':=by
 obtain ⟨R,h⟩:∃ R,jK b=R:=⟨_,rfl⟩
 rw[h];have B:Hid (R=(decide (97≤b.toNat)&&decide (b.toNat≤122))):=zx h.symm;clear h;by_cases A:97≤b.toNat
 ·have J:(97:Int)≤(b.toNat:Int):=by omega
  by_cases D:b.toNat≤122
  ·have I:(b.toNat:Int)≤(122:Int):=by omega
   go_enter Tryz.func55,Tryz.ntmps55
   go_wp2;go_ret;exact ⟨by rw[B.out,decide_eq_true A,decide_eq_true D];rfl,rfl⟩
  have I:¬(b.toNat:Int)≤(122:Int):=by omega
  go_enter Tryz.func55,Tryz.ntmps55
  go_wp2;go_ret;exact ⟨by rw[B.out,decide_eq_true A,decide_eq_false D];rfl,rfl⟩
 have J:¬(97:Int)≤(b.toNat:Int):=by omega
 go_enter Tryz.func55,Tryz.ntmps55
 go_wp2;go_ret;exact ⟨by rw[B.out,decide_eq_false A];rfl,rfl⟩
def lL (b:UInt8):Bool:=decide (48≤b.toNat)&&decide (b.toNat≤57)
theorem ip (b:UInt8) (w:World):Calls zy 56 #[.int .u8 (b.toNat:Int)] w fun e w'=>e=zT (.bool (lL b))∧w=w':=by
 obtain ⟨R,h⟩:∃ R,lL b=R:=⟨_,rfl⟩
 rw[h];have B:Hid (R=(decide (48≤b.toNat)&&decide (b.toNat≤57))):=zx h.symm;clear h;by_cases A:48≤b.toNat
 ·have J:(48:Int)≤(b.toNat:Int):=by omega
  by_cases D:b.toNat≤57
  ·have I:(b.toNat:Int)≤(57:Int):=by omega
   go_enter Tryz.func56,Tryz.ntmps56
   go_wp2;go_ret;exact ⟨by rw[B.out,decide_eq_true A,decide_eq_true D];rfl,rfl⟩
  have I:¬(b.toNat:Int)≤(57:Int):=by omega
  go_enter Tryz.func56,Tryz.ntmps56
  go_wp2;go_ret;exact ⟨by rw[B.out,decide_eq_true A,decide_eq_false D];rfl,rfl⟩
 have J:¬(48:Int)≤(b.toNat:Int):=by omega
 go_enter Tryz.func56,Tryz.ntmps56
 go_wp2;go_ret;exact ⟨by rw[B.out,decide_eq_false A];rfl,rfl⟩
theorem jL (n A B:Int) (w:World) :
  Calls zy 50 #[zW zX n,zW zX A,zW zX B] w fun J w'=>J=zT (.bool (decide (A≤n∧n≤B)))∧w=w':=by
 by_cases I:A≤n
 ·by_cases D:n≤B
  ·have hd:decide (A≤n∧n≤B)=true:=decide_eq_true ⟨I,D⟩
   rw[hd];clear hd;go_enter Tryz.func50,Tryz.ntmps50
   go_wp2;go_ret;exact ⟨rfl,rfl⟩
  have hd:decide (A≤n∧n≤B)=false:=decide_eq_false fun h=>D h.2
  rw[hd];clear hd;go_enter Tryz.func50,Tryz.ntmps50
  go_wp2;go_ret;exact ⟨rfl,rfl⟩
 have hd:decide (A≤n∧n≤B)=false:=decide_eq_false fun h=>I h.1
 rw[hd];clear hd;go_enter Tryz.func50,Tryz.ntmps50
 go_wp2;go_ret;exact ⟨rfl,rfl⟩
end
section
open Go.RowKit Go.Sort
attribute [local go_sem] ag ab ae af
theorem gF (v:Vl) (hs:v.word.length≤1000000000) (w:World) :
  Calls zy 9 #[wU v] w fun e w'=>e=zT (.bool (mf v))∧aa [] w w':=by
 obtain ⟨k,n,s⟩:=v;simp only at hs;show Calls _ _ #[.agg #[zW zX k,zW zX n,zQ (bs s)]] w _;obtain ⟨R,hR⟩:∃ R,mf ⟨k,n,s⟩=R:=⟨_,rfl⟩
 rw[hR];have a3:aa [] w (w.alloc (zU #[zW zX k,zW zX n,zQ (bs s)] 27)):=(zN _ _).alloc _;have D:=zx a3;clear a3;by_cases h1:k=1
 ·have a5:(k==1)=true:=by rw[h1];rfl
  have HR:Hid (R=((s==[])&&decide (-1000000000≤n)&&decide (n≤1000000000))):=zx (hR.symm.trans (if_pos h1));have ad:=zx (fun W=>jL n (-1000000000) 1000000000 W);by_cases hn : -1000000000≤n∧n≤1000000000
  ·rw[decide_eq_true hn] at ad
   have U:R=(s==[]):=by rw[HR.out,decide_eq_true hn.1,decide_eq_true hn.2];simp
   have J:=zx U;clear h1 hR U hn
   cases s with
   | nil =>
    go_enter Tryz.func9,Tryz.ntmps9
    go_wp2_with (go_at_call 50;refine (ad.out _).mono ?_;rintro e w' ⟨rfl,rfl⟩)
    go_ret;exact ⟨by rw[J.out];rfl,D.out⟩
   | cons a t =>
    go_enter Tryz.func9,Tryz.ntmps9
    go_wp2_with (go_at_call 50;refine (ad.out _).mono ?_;rintro e w' ⟨rfl,rfl⟩)
    go_ret;exact ⟨by rw[J.out];rfl,D.out⟩
  rw[decide_eq_false hn] at ad;have U:R=false:=by
   rw[HR.out];by_cases O : -1000000000≤n
   ·rw[decide_eq_false (show ¬n≤1000000000 from fun h=>hn ⟨O,h⟩),Bool.and_false]
   rw[decide_eq_false O,Bool.and_false,Bool.false_and]
  have J:=zx U;clear h1 hR U hn;go_enter Tryz.func9,Tryz.ntmps9
  go_wp2_with (go_at_call 50;refine (ad.out _).mono ?_;rintro e w' ⟨rfl,rfl⟩)
  go_ret;exact ⟨by rw[J.out];rfl,D.out⟩
 have a5:(k==1)=false:=by rw[beq_eq_false_iff_ne];exact h1
 have HR:Hid (R=if k=2 then decide (n=0)&&decide (s.length≤16) && !s.any eL else false):=zx (hR.symm.trans (if_neg h1));clear h1 hR;go_enter Tryz.func9,Tryz.ntmps9
 go_wp2;have c0:(w.alloc (zU #[zW zX k,zW zX n,zQ (bs s)] 27)).cell? ⟨w.heap.size,0,none⟩=some (zW zX k):=(zO _ _ _).cell 0;have c1:(w.alloc (zU #[zW zX k,zW zX n,zQ (bs s)] 27)).cell? ⟨w.heap.size,1,none⟩=some (zW zX n):=(zO _ _ _).cell 1;have c2:(w.alloc (zU #[zW zX k,zW zX n,zQ (bs s)] 27)).cell? ⟨w.heap.size,2,none⟩=some (zQ (bs s)):=(zO _ _ _).cell 2;generalize (w.alloc (zU #[zW zX k,zW zX n,zQ (bs s)] 27))=w2 at *;generalize w.heap.size=bx at *;go_loop [19] (fun i=>∃ m:Nat,m≤s.length∧i=zW zX m∧Hid (∀ j (hj:j<m) (h:j<s.length),eL s[j]=false)) (fun i=>s.length-(intOf i).toNat)
 case atStart=>exact ⟨0,zE _,rfl,fun j hj=>absurd hj (by omega)⟩
 obtain ⟨m,hm,rfl,a1⟩:=hrel;by_cases a2:m<s.length
 ·have a4:((bs s)[m]'(by rw[ag];exact a2))=s[m]:=f4 s m _
  have B:eL s[m]=true→Hid (R=false):=fun h=>zx (by
   rw[HR.out];split
   ·rw[List.any_eq_true.2 ⟨s[m],zH a2,h⟩];simp
   rfl)
  have A:eL s[m]=false→Hid (∀ j (hj:j<m+1) (h:j<s.length),eL s[j]=false):=fun h=>zx fun j hj hl=>by
   by_cases hx:j<m
   ·exact a1.out j hx hl
   obtain rfl:j=m:=by omega
   exact h
  have a6:(0:Int)≤(m:Int):=by omega
  have a7:(m:Int)<(s.length:Int):=by omega
  generalize s[m]=b at *;by_cases M:b.toNat<32
  ·have t1:decide ((b.toNat:Int)<32)=true:=decide_eq_true (by omega)
   have hf:=B (by unfold eL;rw[decide_eq_true M];rfl);clear B A M;go_wp2;go_ret;exact ⟨by rw[hf.out];rfl,D.out⟩
  have t1:decide ((b.toNat:Int)<32)=false:=decide_eq_false (by omega);by_cases I:126<b.toNat
  ·have t2:decide ((126:Int)<(b.toNat:Int))=true:=decide_eq_true (by omega)
   have hf:=B (by unfold eL;rw[decide_eq_true I];simp);clear B A M I;go_wp2;go_ret;exact ⟨by rw[hf.out];rfl,D.out⟩
  have t2:decide ((126:Int)<(b.toNat:Int))=false:=decide_eq_false (by omega);by_cases aA:b.toNat=39
  ·have t3:((b.toNat:Int)==39)=true:=by rw[beq_iff_eq];omega
   have hf:=B (by unfold eL;rw[decide_eq_true aA];simp);clear B A M I aA;go_wp2;go_ret;exact ⟨by rw[hf.out];rfl,D.out⟩
  have t3:((b.toNat:Int)==39)=false:=by rw[beq_eq_false_iff_ne];omega
  have hg:=A (by unfold eL;rw[decide_eq_false aA,decide_eq_false I,decide_eq_false M];rfl);clear B A M I aA;go_wp2;go_round
  case rel=>exact ⟨m+1,by omega,by go_num,hg⟩
  case measure=>simp[intOf];omega
 have a0:s.any eL=false:=by
  rw[List.any_eq_false];intro x hx;obtain ⟨j,hj,rfl⟩:=List.getElem_of_mem hx;rw[a1.out j (by omega) hj];decide
 have J:Hid (R=if k=2 then decide (n=0)&&decide (s.length≤16) else false):=zx (by rw[HR.out,a0];simp);clear a0;by_cases O:k=2
 ·have t2:(k==2)=true:=by rw[O];rfl
  by_cases h0:n=0
  ·have t0:(n==0)=true:=by rw[h0];rfl
   have Z:Hid (R=decide (s.length≤16)):=zx (by rw[J.out,if_pos O,decide_eq_true h0,Bool.true_and]);clear O h0;go_wp2;go_ret;exact ⟨by rw[Z.out];exact congrArg (fun b=>Ending.returned (.bool b)) (decide_eq_decide.2 (by omega)),D.out⟩
  have t0:(n==0)=false:=by rw[beq_eq_false_iff_ne];exact h0
  have Z:Hid (R=false):=zx (by rw[J.out,if_pos O,decide_eq_false h0,Bool.false_and]);clear O h0;go_wp2;go_ret;exact ⟨by rw[Z.out];rfl,D.out⟩
 have t2:(k==2)=false:=by rw[beq_eq_false_iff_ne];exact O
 have Z:Hid (R=false):=zx (by rw[J.out,if_neg O]);clear O;go_wp2;go_ret;exact ⟨by rw[Z.out];rfl,D.out⟩
end
section
open Go.RowKit
attribute [local go_sem] ag ab ae af
def fL (i:Nat) (b:UInt8):Bool:=jK b||(!decide (i=0)&&lL b)
theorem pB (b:UInt8):eK.contains b=jK b:=by
 have h:∀ n:Fin 256,eK.contains (UInt8.ofNat n.val)=jK (UInt8.ofNat n.val):=by decide +kernel
 have:=h ⟨b.toNat,b.toNat_lt⟩;simpa using this
theorem yi (b:UInt8):dc.contains b=(jK b||lL b):=by
 have h:∀ n:Fin 256,dc.contains (UInt8.ofNat n.val)=(jK (UInt8.ofNat n.val)||lL (UInt8.ofNat n.val)):=by decide +kernel
 have:=h ⟨b.toNat,b.toNat_lt⟩;simpa using this
theorem sG (s:Bs):fr s=true↔(∀ i (h:i<s.length),fL i s[i]=true)∧1≤s.length∧s.length≤10:=by
 unfold fr fL;simp only[Bool.and_eq_true,decide_eq_true_eq,List.all_eq_true,pB,yi]
 cases s with
 | nil=>simp
 | cons b l =>
  simp only[List.isEmpty_cons,Bool.not_false,true_and,List.getD_cons_zero,zG];constructor
  ·rintro ⟨⟨A,I⟩,B⟩
   refine ⟨fun i D=>?_,by omega,A⟩
   cases i with
   | zero=>simp only[List.getElem_cons_zero,I,Bool.true_or]
   | succ i =>
    have:=B ((b::l)[i+1]) (zH D);simpa using this
  rintro ⟨A,_,B⟩;refine ⟨⟨B,?_⟩,fun x J=>?_⟩
  ·have:=A 0 (by simp)
   simpa using this
  obtain ⟨i,D,rfl⟩:=List.getElem_of_mem J;have:=A i D;rw[Bool.or_eq_true] at this ⊢;rcases this with h|h
  ·exact .inl h
  rw[Bool.and_eq_true] at h;exact .inr h.2
theorem pC (s:Bs) (hs:s.length≤1000000000) (w:World) :
  Calls zy 15 #[zQ (bs s)] w fun e w'=>e=zT (.bool (fr s))∧w=w':=by
 obtain ⟨R,hR⟩:∃ R,fr s=R:=⟨_,rfl⟩
 rw[hR];have HR:=zx hR;clear hR;have HI:=zx (sG s);have aA:=zx (fun (b:UInt8) (W:World)=>io b W);have a0:=zx (fun (b:UInt8) (W:World)=>ip b W);go_enter Tryz.func15,Tryz.ntmps15
 go_wp2;go_loop [6] (fun i=>∃ n:Nat,n≤s.length∧i=zW zX n∧Hid (∀ j (hj:j<n) (h:j<s.length),fL j s[j]=true)) (fun i=>s.length-(intOf i).toNat)
 case atStart=>exact ⟨0,zE _,rfl,fun j hj=>absurd hj (by omega)⟩
 obtain ⟨n,hn,rfl,J⟩:=hrel;by_cases M:n<s.length
 ·have ad:((bs s)[n]'(by rw[ag];exact M))=s[n]:=f4 s n _
  have D:fL n s[n]=false→Hid (R=false):=fun h=>zx (by
   rw[←HR.out,Bool.eq_false_iff];intro h2;have:=(HI.out.1 h2).1 n M;rw[h] at this;cases this)
  have B:fL n s[n]=true→Hid (∀ j (hj:j<n+1) (h:j<s.length),fL j s[j]=true):=fun h=>zx fun j hj A=>by
   by_cases hx:j<n
   ·exact J.out j hx A
   obtain rfl:j=n:=by omega
   exact h
  generalize s[n]=b at *;have I:=zx (aA.out b);have HD:=zx (a0.out b);have HB:=zx D;have HG:=zx B;clear D B
  cases A:jK b with
  | true =>
   have hg:=HG.out (by unfold fL;rw[A];rfl);rw[A] at I;clear A;go_wp2_with (go_at_call 55;refine (I.out _).mono ?_;rintro e w' ⟨rfl,rfl⟩)
   go_round
   case rel=>exact ⟨n+1,by omega,by go_num,hg⟩
   case measure=>simp[intOf];omega
  | false =>
   rw[A] at I;by_cases Z:n=0
   ·subst Z
    have hf:=HB.out (by unfold fL;rw[A];rfl);clear A;go_wp2_with (go_at_call 55;refine (I.out _).mono ?_;rintro e w' ⟨rfl,rfl⟩)
    go_ret;exact ⟨by rw[hf.out];rfl,rfl⟩
   have t0:((n:Int)==0)=false:=by rw[beq_eq_false_iff_ne];omega
   cases hd:lL b with
   | true =>
    have hg:=HG.out (by unfold fL;rw[A,hd,decide_eq_false Z];rfl);rw[hd] at HD;clear A hd Z;go_wp2_with (first|(go_at_call 55;refine (I.out _).mono ?_;rintro e w' ⟨rfl,rfl⟩)|(go_at_call 56;refine (HD.out _).mono ?_;rintro e w' ⟨rfl,rfl⟩))
    go_round
    case rel=>exact ⟨n+1,by omega,by go_num,hg⟩
    case measure=>simp[intOf];omega
   | false =>
    have hf:=HB.out (by unfold fL;rw[A,hd,Bool.and_false];rfl);rw[hd] at HD;clear A hd Z;go_wp2_with (first|(go_at_call 55;refine (I.out _).mono ?_;rintro e w' ⟨rfl,rfl⟩)|(go_at_call 56;refine (HD.out _).mono ?_;rintro e w' ⟨rfl,rfl⟩))
    go_ret;exact ⟨by rw[hf.out];rfl,rfl⟩
 have U:R=decide (1≤(s.length:Int)∧(s.length:Int)≤10):=by
  rw[←HR.out,Bool.eq_iff_iff,decide_eq_true_iff,HI.out];constructor
  ·rintro ⟨_,h1,h2⟩;omega
  rintro ⟨h1,h2⟩;exact ⟨fun i h=>J.out i (by omega) h,by omega,by omega⟩
 have O:=zx (fun W=>jL (s.length:Int) 1 10 W);rw[←U] at O;clear U;go_wp2_with (go_at_call 50;refine (O.out _).mono ?_;rintro e w' ⟨rfl,rfl⟩)
 go_ret;exact ⟨rfl,rfl⟩
end
section
def dT {α:Type} (r:Except (Int×Int) α):Prop:=∀ y,r= .error y→0<y.1
theorem dT.ok {α:Type} (a:α):dT (.ok a):=fun _ h=>by cases h
theorem dT.fail {α:Type} {e:Int} (h:0<e) (l:List Tk):dT (dD (α:=α) e l):=fun y A=>by cases A;exact h
theorem dT.bind {α β:Type} {r:Except (Int×Int) α} {f:α→Except (Int×Int) β} (h:dT r) (k:∀ a,dT (f a)):dT (r >>= f):=by
 cases r with
 | error x=>intro y A;exact h y (by cases A;rfl)
 | ok a=>exact k a
theorem dT.ite {α:Type} {c:Prop} [Decidable c] {a b:Except (Int×Int) α} (h:dT a) (A:dT b):dT (if c then a else b):=by
 split
 ·exact h
 exact A
theorem cd (s:Bs) (l:List Tk):dT (aq s l):=dT.ite (.ok _) (.fail (by decide) _)
theorem cw (l:List Tk):dT (aj l):=dT.ite (.fail (by decide) _) (.ite (.fail (by decide) _) (.ok _))
theorem kj:∀ (n:Nat) (l:List Tk) (h:List Bs),dT (bz n l h)
 | 0,_,_=>dT.ok _
 | n+1,_,_=>dT.ite (.bind (cw _) fun _=>kj n _ _) (.ok _)
theorem nH (l:List Tk):dT (bR l):= .bind (cw _) fun _=>kj _ _ _
theorem rB (r:List Tk) (v:Vl):dT (fm r v):=dT.ite (.ok _) (.fail (by decide) _)
theorem pH (h:Bool) (r:List Tk):dT (bi h r):=by
 unfold bi;refine dT.ite (.fail (by decide) _) (.ite (rB _ _) (.ite ?_ (.fail (by decide) _)));split
 ·exact rB _ _
 exact .fail (by decide) _
theorem sU (l:List Tk):dT (di l):=dT.ite (pH _ _) (pH _ _)
theorem oy (l:List Tk):dT (bN l):=dT.ite (.bind (cw _) fun _=> .ok _) (.bind (sU _) fun _=> .ok _)
theorem kC (ms:List Bs) (l:List Tk):dT (bC ms l):=by
 unfold bC;split
 ·exact .fail (by decide) _
 exact .ok _
theorem qO (l:List Tk):dT (pM l):= .bind (cw _) fun _=> .bind (kC _ _) fun _=> .ok _
theorem mc:∀ (n:Nat) (l:List Tk) (h:List Cl),dT (b8 n l h)
 | 0,_,_=>dT.ok _
 | n+1,_,_=> .bind (qO _) fun _=>dT.ite (mc n _ _) (.ok _)
theorem sV (l:List Tk):dT (bc l):= .bind (cd _ _) fun _=> .bind (cw _) fun _=> .bind (cd _ _) fun _=> .bind (mc _ _ _) fun _=> .bind (cd _ _) fun _=> .ok _
theorem sW (j:Jb) (l:List Tk):dT (dJ j l):= .bind (cd _ _) fun _=> .bind (cw _) fun _=> .bind (kC _ _) fun _=> .bind (oy _) fun _=> .ok _
theorem uI (j:Jb) (l:List Tk):dT (pN j l):= .bind (cw _) fun _=> .bind (cd _ _) fun _=> .bind (cw _) fun _=> .ok _
theorem wy (j:Jb) (l:List Tk):dT (nI j l):= .bind (cd _ _) fun _=> .bind (cw _) fun _=> .bind (cd _ _) fun _=> .bind (oy _) fun _=> .bind (kC _ _) fun _=> .bind (oy _) fun _=> .ok _
theorem yn (j:Jb) (l:List Tk):dT (td j l):= .bind (cd _ _) fun _=> .bind (nH _) fun _=> .ok _
theorem sX (j:Jb) (l:List Tk):dT (f8 j l):= .bind (cd _ _) fun _=> .bind (cw _) fun _=> .bind (kC _ _) fun _=> .bind (cw _) fun _=> .ok _
theorem uJ (j:Jb) (l:List Tk):dT (iz j l):= .bind (uI _ _) fun _=> .bind (cd _ _) fun _=>uI _ _
theorem sY (j:Jb) (l:List Tk):dT (gJ j l):= .bind (cw _) fun _=> .bind (cd _ _) fun _=> .bind (cw _) fun _=> .ok _
theorem uK (j:Jb) (l:List Tk):dT (gK j l):=dT.ite (sW _ _) (.ite (wy _ _) (.ite (yn _ _) (.ite (sX _ _) (.ok _))))
theorem uL (j:Jb) (l:List Tk):dT (am j l):=dT.ite (.fail (by decide) _) (.ite (uJ _ _) (.ite (sY _ _) (.bind (cw _) fun _=>uK _ _)))
theorem sZ (l:List Tk):dT (bF l):=by
 unfold bF;refine dT.ite (.ite (.fail (by decide) _) ?_) (.ok _);split
 ·exact .ite (.fail (by decide) _) (.ok _)
 exact .fail (by decide) _
theorem wA (l:List Tk):dT (dL l):= .bind (cd _ _) fun _=> .bind (nH _) fun _=> .bind (sZ _) fun _=> .bind (cd _ _) fun _=> .bind (uL _ _) fun _=> .bind (cd _ _) fun _=> .ok _
theorem wB (l:List Tk):dT (ef l):= .bind (cd _ _) fun _=> .bind (cw _) fun _=> .bind (cd _ _) fun _=> .bind (cw _) fun _=> .bind (cd _ _) fun _=> .ok _
theorem jn {α:Type} (w:Bs) (A:List Tk→Except (Int×Int) (α×List Tk)) (h:∀ l,dT (A l)):∀ (n:Nat) (l:List Tk) (B:List α),dT (bp w A n l B)
 | 0,_,_=>dT.ok _
 | n+1,_,_=>dT.ite (.ite (.fail (by decide) _) (.bind (h _) fun _=>jn w A h n _ _)) (.ok _)
theorem uM (l:List Tk):dT (cY l):= .bind (jn _ _ sV _ _ _) fun _=> .bind (jn _ _ wA _ _ _) fun _=> .bind (jn _ _ wB _ _ _) fun _=> .ok _
theorem jP:∀ (f:Nat) (s:Bs) (i:Nat) (A:List Tk),dT (cQ f s i A)
 | 0,_,_,_=>dT.ok _
 | _+1,[],_,_=>dT.ok _
 | f+1,c::t,i,A=>by
  unfold cQ;refine dT.ite (jP f _ _ _) (.ite (fun y h=>by cases h;show (0:Int)<3;decide) (.ite (fun y h=>by cases h;show (0:Int)<4;decide) (jP f _ _ _)))
theorem s7 (s:Bs):dT (fE s):= .bind (jP _ _ _ _) fun _=> .bind (uM _) fun _=>dT.ite (.fail (by decide) _) (.ok _)
end
section
open Go.RowKit Go.ChangeShapes Go.WideShapes
theorem me {H:Type} {enc:TypeId×Value→H} {a:Assume} {C:Checked} {os:Os} {f:FuncId} {fn:Func} {s:ChangeSpec} {U:List PathCond} {h M D J:Bool} {X:World→Array Value→Prop}
  (hX:∀ (w w':World) (args:Array Value),w.heap=w'.heap→X w args→X w' args)
  (a3:ownKnob C.prog.godebug=none) (O:os.Started) (ad:C.prog.inits.idxOf? f=none) (a6:C.prog.funcs[f]? = some fn)
  (Z:∃ (w:World) (A:Tape) (i:Input),w.os=os∧(w.forCall A i).Shaped C.prog∧i.vars=[]∧Input.okWide C.prog (w.forCall A i) .any w.heap.size f i ∧
   ((s.pre enc C.prog fn U h (w.forCall A i).memory i.args∧X (w.forCall A i).memory i.args)∧sizedMet enc C.prog fn (OpenSpec.ofChange s) h (w.forCall A i).memory i.args)∧a.holds C.prog (lone (Frame.enter C.prog f i.args .normal) [] (w.forCall A i)))
  (I:∀ (W:World) (aA:Nat) (args:Array Value) (ds gs:List (DataW H)) (B:List MemPlace),
   (∀ (j:Nat) t v,fn.params[j]? = some t→args[j]? = some v→Value.okWide C.prog W .any aA t v) →
   DataW.Whole enc C.prog fn.params.toList s.vars h W args.toList ds gs B→X W args→W.ShapedOpen C.prog →
   Calls C.prog f args W fun e W'=>∃ v,e= .returned v∧s.post enc C.prog fn h M D J W args v W') :
  ReturnsInHanded a C os f .any (fun w args=>(s.pre enc C.prog fn U h w args∧X w args)∧sizedMet enc C.prog fn (OpenSpec.ofChange s) h w args) (s.post enc C.prog fn h M D J):=by
 refine returnsInHanded_of_calls a3 O ad Z ?_;intro w A i _ a5 _ a4 a2 _;obtain ⟨_,_,_,a7,a1,_,_,_,_,a0⟩:=a4;obtain rfl:a7=fn:=Option.some.inj (a1.symm.trans a6);obtain ⟨⟨⟨ds,gs,B,hw,_⟩,hx⟩,_⟩:=a2;have hw':=DataW.Whole.of_heap (w':=w.forCall A i) (by rfl) hw;refine (I (w.forCall A i) w.heap.size i.args ds gs B a0 hw' (hX _ _ _ (by rfl) hx) a5).mono fun e W' ⟨v,he,hp⟩=>?_
 subst he;exact ChangeSpec.post_blind hp
theorem iS {P:Program} {W:World} {A:List (String×DataW Unit)} (nm:String) (d:DataW Unit) (B:A.filter (fun x=>x.1==nm)=[(nm,d)]) (h:laidMet P A W):laidMet P [(nm,d)] W:=B ▸ h.filter fun x=>x.1==nm
theorem mH {H:Type} {enc:TypeId×Value→H} {P:Program} {w:World} {A:Nat} {sp:Nat→Bool} {B:Bool} {fuel:Nat} {t e:TypeId} {n:Nat} {cs:List Value} {zs:List Bs} {p:List MemPlace}
  (ht:P.underlying t=some (.array n e)) (he:P.underlying e=some .string) (M:P.cellsOf e=1) (J:P.cellsOf t=n)
  (h:DataW.trod enc P w A sp B fuel t cs=some (.agg (zs.map fun z=> .lit (.string z)),p)):cs=zs.map fun z=>Value.string (bs z):=by
 cases fuel with
 | zero=>simp[DataW.trod] at h
 | succ fuel =>
  simp only[DataW.trod,ht,M,J,Nat.mul_one] at h;split at h
  ·rename_i hl
   obtain ⟨xs,U,hx⟩:=Option.map_eq_some_iff.1 h;have D:xs.map (·.1)=zs.map fun z=>(DataW.lit (.string z):DataW H):=by
    have:=congrArg Prod.fst hx;simpa using this
   have Z:xs.length=n:=by simpa using Lib.mapM_length U
   have ad:zs.length=n:=by
    have:=congrArg List.length D;simp at this;omega
   apply List.ext_getElem?;intro i;by_cases hi:i<n
   ·obtain ⟨b,hb,hf⟩:=Lib.mapM_at U i i (by simp[hi])
    obtain ⟨s,hc,rfl,_⟩:=DataW.trod_string he hf;have h1:cs[i]? = some (.string s):=by
     have:=congrArg (·[0]?) hc;simpa[List.getElem?_take,List.getElem?_drop] using this
    have I:(xs.map (·.1))[i]? = some (DataW.lit (.string s.data.toList):DataW H):=by simp[hb]
    rw[D] at I;simp only[List.getElem?_map,Option.map_eq_some_iff,DataW.lit.injEq,Lit.string.injEq] at I;obtain ⟨z',O,rfl⟩:=I;simp[h1,O,qQ]
   rw[List.getElem?_eq_none (by omega),List.getElem?_eq_none (by simp;omega)]
  cases h
theorem pI {P:Program} {W:World} {nm:String} {g:Nat} {t:TypeId} {ms:Array (String×TypeId)} {B:String} {d:DataW Unit} (M:P.globalNamed nm=some g) (J:(P.globals[g]?).map (·.type)=some t) (O:P.underlying t=some (.interface ms))
  (h:laidMet P [(nm,.iface B d)] W):∃ u v,W.cell? ⟨g,0,none⟩=some (.iface u v):=by
 obtain ⟨ps,⟨Z,t',cs,fuel,p,q,D,I,A,hd,_,_⟩,_⟩:=h;obtain rfl:=Option.some.inj (M.symm.trans D);obtain rfl:=Option.some.inj (J.symm.trans I);obtain ⟨_,u,v,U,_,_⟩:=iface_of_trod O hd;refine ⟨u,v,?_⟩;rw[World.var?_cell M A 0];have:cs= #[.iface u v]:=by rw[←U]
 rw[this];rfl
end
section
open Go.RowKit
def uP:DataW Unit→Array Value
 | .agg l=>(l.map fun
  | .lit (.int k z)=>Value.int k z
  | .lit (.string s)=>Value.string (bs s)
  | _=>undef).toArray
 | _=> #[]
def tc (w0:World):World :=
 { w0 with heap:=w0.heap.modify 9 fun
   | .cells _ t h=> .cells (uP Go.Pinned.utf8First) t h
   | o=>o }
end
end Go.Proofs.YtpagiajlefejcaaGreatDoor
