/- Words and laws that the proof of EvalMore leans on. No condition. -/
import Derived.Test.YtecpeogejjibaaaGreatDoorEmoM1
import Derived.Test.YtecpeogejjibaaaGreatDoorProg
import Derived.Shelf.Strings.Builder1
import Derived.Lib.OthersKept
import Derived.Test.YtecpeogejjibaaaGreatDoorShTab
import Derived.Sort.Grow
import Derived.Lib.ItoaLen
import Derived.Lib.ConvBytes
import Derived.Lib.AtoiAll
import Derived.Maps.Own
import Derived.Maps.OwnSet
import Derived.Maps.StringElems
import Derived.Orders
set_option linter.unusedSimpArgs false
set_option linter.unusedVariables false
set_option maxRecDepth 100000
set_option maxHeartbeats 16000000
namespace Go.Proofs.YtecpeogejjibaaaGreatDoor
open Go.Lib renaming hid → Fx
open _root_.Nat renaming le_refl → Fy, le_trans → FD, zero_le → FF
open _root_.List renaming length_append → Fz, getElem?_eq_getElem → FA, getElem_mem → FE, length_cons → FG, length_take → FH, getD_eq_getElem?_getD → FJ
open aa renaming refl → FK
open Go.Value renaming string → FM, slice → FN, int → FR
open Go.Ending renaming returned → FP
open Go.IntKind renaming i64 → FS
section
open Go.RowKit
structure KW (w0:World) where
 w:World
 k:aa [] w0 w
instance (w0:World):Inhabited (KW w0):=⟨⟨w0,aa.refl [] w0⟩⟩
theorem ah {P:Program} {id:Nat} {Q:Exit→Act→World→Prop} {a:Act} {w:World} {l:List Oper} (J:P.follows .mixedOrders=true) (I:Region.lexB .any l.toArray=true)
  (h:wpQuiet P l.toArray (fun w'=>∃ p:KW w,w'=p.w) (fun D=>∀ w',aa [] w w'→Q .normal D w') l a):(Code.region id l.toArray true).wp P Q a w:=by
 have e:(fun D=>∀ w',aa [] w w'→Q .normal D w')=fun D=>∀ w',(∃ p:KW w,w'=p.w)→Q .normal D w':=by
  funext D
  exact propext ⟨fun h w' ⟨p,e⟩=>h w' (e ▸ p.k),fun h w' k=>h w' ⟨⟨w',k⟩,rfl⟩⟩
 rw[e] at h;exact wp_region_quiet (C:=fun w'=>∃ p:KW w,w'=p.w) J I ⟨⟨w.drew,(FK [] w).drew⟩,rfl⟩ (by simpa using h)
theorem KW.cell {w0:World} (p:KW w0) (b o:Nat) (h:b<w0.heap.size):p.w.cell? ⟨b,o,none⟩=w0.cell? ⟨b,o,none⟩:=p.k.cell h (by simp)
theorem KW.of {P:Program} {f:FuncId} {args:Array Value} {w0:World} {v:Value} (h:∀ W,aa [] w0 W→Calls P f args W fun e W'=>e=FP v∧aa [] W W') (p:KW w0) :
  Calls P f args p.w fun e D=>e=FP v∧∃ q:KW w0,D=q.w :=
 (h p.w p.k).mono fun _ W' ⟨J,I⟩=>⟨J,⟨W',p.k.trans I⟩,rfl⟩
end
section
open Go.RowKit
attribute [local go_sem] ag ab ae af
def zB (w:World) (B b:Nat) (l:Bs):Prop:=Lib.IsBuilder 272 5 B b (Lib.byteCells l) w
theorem zB.alloc {w:World} {B b:Nat} {l:Bs} (h:zB w B b l) (o:Obj):zB (w.alloc o) B b l:=by
 have D:∀ p,Lib.BuilderAt 272 5 B b p (Lib.byteCells l) w→Lib.BuilderAt 272 5 B b p (Lib.byteCells l) (w.alloc o):=fun p O=>by
  obtain ⟨N,v,I,M,J⟩:=O;exact ⟨N,v,(Lib.alloc_old w o b (Array.getElem?_eq_some_iff.1 I).1).trans I,M.alloc o,J⟩
 rcases h with h|h
 ·exact .inl (D _ h)
 exact .inr (D _ h)
theorem zB.keep {w w':World} {B b:Nat} {l:Bs} (h:zB w B b l) (I:aa [] w w'):zB w' B b l:=by
 have D:∀ p,Lib.BuilderAt 272 5 B b p (Lib.byteCells l) w→Lib.BuilderAt 272 5 B b p (Lib.byteCells l) w':=fun p U=>by
  obtain ⟨O,v,J,N,M⟩:=U;exact ⟨O,v,(I.block b (Array.getElem?_eq_some_iff.1 J).1 (by simp)).trans J,aC N I (by simp),M⟩
 rcases h with h|h
 ·exact .inl (D _ h)
 exact .inr (D _ h)
theorem zB.lt {w:World} {B b:Nat} {l:Bs} (h:zB w B b l):b<w.heap.size:=by
 rcases h with ⟨_,v,D,_⟩|⟨_,v,D,_⟩
 ·exact (Array.getElem?_eq_some_iff.1 D).1
 exact (Array.getElem?_eq_some_iff.1 D).1
theorem zB.drew {w:World} {B b:Nat} {l:Bs} (h:zB w B b l):zB w.drew B b l:=h
end
section
open Go.RowKit Go.Sort
attribute [local go_sem] ag ab ae af
theorem iV {P:Program} {w w':World} {nm:String} {k:IntKind} {zs:List Int} (h:Lib.TabIs P w nm k zs) (M:aa [] w w'):Lib.TabIs P w' nm k zs:=by
 unfold Lib.TabIs World.var? at *
 cases J:P.globalNamed nm with
 | none=>rw[J] at h;cases h
 | some g =>
  rw[J] at h;simp only[Option.bind_some] at h ⊢
  cases I:w.heap[g]? with
  | none=>rw[I] at h;cases h
  | some o =>
   have D:g<w.heap.size:=(Array.getElem?_eq_some_iff.1 I).1;rw[M.block g D (by simp)];exact h
theorem nA (w:World) (os:Array Obj):aa [] w (grow w os) :=
 ⟨rfl,rfl,by unfold grow;simp,fun k h _=>by unfold grow;exact Array.getElem?_append_left h⟩
theorem xg (v:Vl) (J:ea v.num) (O:v.word.length≤1000000000) (w:World) (N:Lib.TabIs Tryz.prog w "internal/strconv.uint64pow10" .u64 Lib.pow10Tab) :
  Calls Tryz.prog 170 #[fV v] w fun e w'=>e=FP (FM (bs (bd v)))∧aa [] w w':=by
 obtain ⟨k,n,s⟩:=v;simp only at J O;show Calls _ _ #[.agg #[FR FS k,FR FS n,FM (bs s)]] w _;have U:=Fx N;have M:=Fx J;clear N J;by_cases h:k=1
 ·have I:(k==1)=true:=by rw[h];rfl
  have D:Hid (bd ⟨k,n,s⟩=Lib.itoa n):=Fx (if_pos h);clear h;go_enter Tryz.func170,Tryz.ntmps170
  go_wp2_with fail
  refine (Tryz.strconv_Itoa n M.out.1 M.out.2 _ (iV U.out ((FK _ _).alloc _))).mono ?_;rintro e w' ⟨rfl,Z,os,rfl⟩;go_wp2;go_ret;exact ⟨by rw[D.out];rfl,(((FK _ _).alloc _).drewN _).trans (nA _ _)⟩
 have I:(k==1)=false:=by rw[beq_eq_false_iff_ne];exact h
 have D:Hid (bd ⟨k,n,s⟩=[39]++s++[39]):=Fx (if_neg h);clear h;go_enter Tryz.func170,Tryz.ntmps170
 go_wp2;go_ret;exact ⟨by rw[D.out,←ae,←ae];rfl,(FK _ _).alloc _⟩
end
section
def cR (c:UInt8):List Bs→Bs
 | []=>[]
 | [a]=>a
 | a::b::t=>a++c::cR c (b::t)
theorem dG (c:UInt8) (a:Bs) {l:List Bs} (h:l≠[]):cR c (a::l)=a++c::cR c l:=by
 cases l with
 | nil=>exact absurd rfl h
 | cons b t=>rfl
theorem kj (c:UInt8) (x:Bs):∀ {l:List Bs},l≠[]→cR c (l++[x])=cR c l++c::x
 | [],h=>absurd rfl h
 | [a],_=>rfl
 | a::b::t,_=>by
  have ih:=kj c x (l:=b::t) (by simp);rw[List.cons_append,dG c a (by simp),dG c a (by simp),ih];simp
def gr (p:Bs):List Bs→List Bs
 | []=>[p]
 | h::t=>(p++h)::t
theorem wb (p:Bs) (l:List Bs):gr p l≠[]:=by cases l<;>simp[gr]
theorem fD (p r:Bs) (l:List Bs):gr p (gr r l)=gr (p++r) l:=by cases l<;>simp[gr]
theorem kP {l:List Bs} (h:l≠[]):gr [] l=l:=by
 cases l with
 | nil=>exact absurd rfl h
 | cons=>rfl
theorem jZ (c:UInt8):∀ s:Bs,ax c s≠[]
 | []=>by simp[ax]
 | b::l=>by
  unfold ax;split
  ·simp
  split<;>simp
theorem mu (c b:UInt8) (l:Bs):ax c (b::l)=if b=c then []::ax c l else gr [b] (ax c l):=by
 conv=>lhs;unfold ax
 split
 ·rfl
 split
 ·rename_i h t D;rw[D];rfl
 rename_i D;exact absurd D (jZ c l)
theorem kn (c:UInt8) (r:Bs):∀ p:Bs,c∉p→ax c (p++r)=gr p (ax c r)
 | [],_=>(kP (jZ c r)).symm
 | b::p,h=>by
  have ih:=kn c r p (fun I=>h (List.mem_cons_of_mem _ I));have D:b≠c:=fun e=>h (by rw[e];exact List.mem_cons_self ..)
  rw[List.cons_append,mu,if_neg D,ih,fD];rfl
theorem ko (c:UInt8):∀ {l:List Bs},l≠[]→(∀ u∈l,c∉u)→ax c (cR c l)=l
 | [],h,_=>absurd rfl h
 | [a],_,D=>by
  have:=kn c [] a (D a (List.mem_cons_self ..));rw[List.append_nil] at this;show ax c a=_;rw[this];simp[ax,gr]
 | a::b::t,_,D=>by
  have ih:=ko c (l:=b::t) (by simp) (fun u I=>D u (List.mem_cons_of_mem _ I));rw[dG c a (by simp),kn c _ a (D a (List.mem_cons_self ..)),mu,if_pos rfl,ih];simp[gr]
theorem sk (c:UInt8) (r:Bs):∀ p:Bs,c∉p→fT c (p++c::r)=(p,r)
 | [],_=>by simp[fT]
 | b::p,h=>by
  have D:b≠c:=fun e=>h (by rw[e];exact List.mem_cons_self ..)
  rw[List.cons_append];unfold fT;rw[if_neg D,sk c r p (fun I=>h (List.mem_cons_of_mem _ I))]
def fw:Bool→Bs→List Bs
 | _,[]=>[[]]
 | q,b::l=>if b=39 then gr [b] (fw (!q) l) else if b=32 && !q then []::fw q l else gr [b] (fw q l)
theorem qX (q:Bool) (l:Bs):fw q l≠[]:=by
 cases l with
 | nil=>simp[fw]
 | cons b l =>
  unfold fw;split
  ·exact wb _ _
  split
  ·simp
  exact wb _ _
theorem ng (s:Bs):∀ (m k:Nat),k+m=s.length→∀ o f q,ei s k=(o,f,q)→f≤k→fU s=o++gr ((s.take k).drop f) (fw q (s.drop k))
 | 0,k,O,o,f,q,M,U=>by
  obtain rfl:k=s.length:=by omega
  unfold fU;rw[M,List.drop_length,List.take_length];simp[fw,gr]
 | m+1,k,O,o,f,q,M,U=>by
  have D:k<s.length:=by omega
  have Z:s.getD k 0=s[k]:=by rw[FJ,FA D];rfl
  have hd:s.drop k=s[k]::s.drop (k+1):=List.drop_eq_getElem_cons D;have N:(s.take (k+1)).drop f=(s.take k).drop f++[s[k]]:=by
   rw[List.take_succ_eq_append_getElem D,List.drop_append_of_le_length (by rw[FH];omega)]
  have h:ei s (k+1)=(if s[k]=39 then (o,f,!q) else if s[k]=32 && !q then (o++[(s.take k).drop f],k+1,q) else (o,f,q)):=by
   conv=>lhs;unfold ei
   rw[M,Z]
  rw[hd];unfold fw;by_cases J:s[k]=39
  ·rw[if_pos J] at h ⊢
   rw[ng s m (k+1) (by omega) _ _ _ h (by omega),N,fD]
  rw[if_neg J] at h ⊢;by_cases I:(s[k]=32 && !q)=true
  ·rw[if_pos I] at h ⊢
   rw[ng s m (k+1) (by omega) _ _ _ h (by omega)];have e:(s.take (k+1)).drop (k+1)=[]:=List.drop_of_length_le (by rw[FH];omega);rw[e,kP (qX _ _)];simp[gr]
  rw[if_neg I] at h ⊢;rw[ng s m (k+1) (by omega) _ _ _ h (by omega),N,fD]
theorem BN (s:Bs):fU s=fw false s:=by
 rw[ng s s.length 0 (by omega) [] 0 false rfl (Fy _)];simp[kP (qX _ _)]
def Whole (p:Bs):Prop:=∀ r,fw false (p++r)=gr p (fw false r)
theorem mw:∀ {p:Bs},(∀ b∈p,b≠39∧b≠32)→Whole p
 | [],_=>fun r=>(kP (qX _ _)).symm
 | b::p,h=>fun r=>by
  have D:=h b (List.mem_cons_self ..);have ih:=mw (p:=p) (fun x I=>h x (List.mem_cons_of_mem _ I)) r;rw[List.cons_append];conv=>lhs;unfold fw
  rw[if_neg D.1,if_neg (by simp[D.2]),ih,fD];rfl
theorem p4 (r:Bs):∀ w:Bs,(39:UInt8)∉w→fw true (w++39::r)=gr (w++[39]) (fw false r)
 | [],_=>by
  show fw true (39::r)=_;conv=>lhs;unfold fw
  rw[if_pos rfl];rfl
 | b::w,h=>by
  have D:b≠39:=fun e=>h (by rw[e];exact List.mem_cons_self ..)
  rw[List.cons_append];conv=>lhs;unfold fw
  rw[if_neg D,if_neg (by simp),p4 r w (fun I=>h (List.mem_cons_of_mem _ I)),fD];rfl
theorem qY {w:Bs} (h:(39:UInt8)∉w):Whole ([39]++w++[39]):=fun r=>by
 have e:[39]++w++[39]++r=39::(w++39::r):=by simp
 rw[e];conv=>lhs;unfold fw
 rw[if_pos rfl];show gr [39] (fw true _)=_;rw[p4 r w h,fD];simp
theorem sl:∀ {l:List Bs},l≠[]→(∀ u∈l,Whole u)→fw false (cR 32 l)=l
 | [],h,_=>absurd rfl h
 | [a],_,D=>by
  have:=D a (List.mem_cons_self ..) [];rw[List.append_nil] at this;show fw false a=_;rw[this];simp[fw,gr]
 | a::b::t,_,D=>by
  have ih:=sl (l:=b::t) (by simp) (fun u I=>D u (List.mem_cons_of_mem _ I));rw[dG 32 a (by simp),D a (List.mem_cons_self ..)];conv=>lhs;unfold fw
  rw[if_neg (by decide),if_pos (by decide),ih];simp[gr]
theorem lK (u:Nat):∀ b∈Lib.decDigits u,48≤b.toNat∧b.toNat≤57:=by
 induction u using Nat.strongRecOn with
 | _ u ih =>
  intro b h;rw[Lib.decDigits] at h;split at h
  ·rw[List.mem_singleton] at h
   subst h;rw[UInt8.toNat_ofNat'];omega
  rw[List.mem_append,List.mem_singleton] at h;rcases h with h|rfl
  ·exact ih (u / 10) (by omega) b h
  rw[UInt8.toNat_ofNat'];omega
theorem zD (u:Nat):Lib.decDigits u≠[]:=by
 rw[Lib.decDigits];split<;>simp
theorem nB (d:UInt8) (hd:48≤d.toNat∧d.toNat≤57):∀ (l:Bs) (a v:Nat),Lib.parseUint10 a l= .ok v→v<1844674407370955161→Lib.parseUint10 a (l++[d])= .ok (v*10+(d.toNat-48))
 | [],a,v,h,D=>by
  simp only[Lib.parseUint10] at h;injection h with h;subst h;simp only[List.nil_append,Lib.parseUint10];rw[if_pos hd,if_neg (by omega),if_neg (by omega)]
 | c::l,a,v,h,D=>by
  simp only[List.cons_append,Lib.parseUint10] at h ⊢;split at h
  ·rename_i J
   rw[if_pos J];split at h
   ·cases h
   rename_i M;rw[if_neg M];split at h
   ·cases h
   rename_i I;rw[if_neg I];exact nB d hd l _ v h D
  cases h
theorem p5 (u:Nat) (h:u<18446744073709551610):Lib.parseUint10 0 (Lib.decDigits u)= .ok u:=by
 induction u using Nat.strongRecOn with
 | _ u ih =>
  rw[Lib.decDigits];split
  ·simp only[Lib.parseUint10]
   have e:(UInt8.ofNat (48+u)).toNat=48+u:=by rw[UInt8.toNat_ofNat'];omega
   rw[e,if_pos (by omega),if_neg (by omega),if_neg (by omega)];congr 1
   omega
  have e:(UInt8.ofNat (48+u % 10)).toNat=48+u % 10:=by rw[UInt8.toNat_ofNat'];omega
  rw[nB _ (by rw[e];omega) _ 0 (u / 10) (ih (u / 10) (by omega) (by omega)) (by omega),e];congr 1
  omega
theorem lL (n:Int):∀ b∈Lib.itoa n,b=45∨(48≤b.toNat∧b.toNat≤57):=fun b h=>by
 unfold Lib.itoa at h;split at h
 ·rcases List.mem_cons.1 h with rfl|h
  ·exact .inl rfl
  exact .inr (lK _ b h)
 exact .inr (lK _ b h)
theorem xo (n:Int) (h:ea n):Lib.atoiAll (Lib.itoa n)= .ok n:=by
 unfold ea at h;unfold Lib.itoa;split
 ·rename_i J
  have D:=p5 n.natAbs (by omega);simp only[Lib.atoiAll];rw[if_pos (by decide)];unfold Lib.parseMag;rw[if_neg (zD _),D];simp only;rw[if_neg (by simp),if_neg (by omega)];have I:(45:UInt8).toNat=45:=rfl;rw[if_pos I];congr 1
  omega
 rename_i J;have D:=p5 n.toNat (by omega)
 cases hd:Lib.decDigits n.toNat with
 | nil=>exact absurd hd (zD _)
 | cons c r =>
  have M:=lK n.toNat c (by rw[hd];exact List.mem_cons_self ..);rw[hd] at D;simp only[Lib.atoiAll];rw[if_neg (by omega)];unfold Lib.parseMag;rw[if_neg (by simp),D];simp only;rw[if_neg (by omega),if_neg (by omega),if_neg (by omega)];congr 1
  omega
theorem we {v:Vl} (h:eS v=true) (D:v.kind=1):v.word=[]∧ -1000000000≤v.num∧v.num≤1000000000:=by
 unfold eS at h;rw[if_pos D] at h;simpa[and_assoc] using h
theorem sn {v:Vl} (h:eS v=true) (D:v.kind≠1):v.kind=2∧v.num=0∧v.word.length≤16∧∀ b∈v.word,iN b=false:=by
 unfold eS at h;rw[if_neg D] at h;split at h
 ·rename_i J
  simp only[Bool.and_eq_true,decide_eq_true_eq,Bool.not_eq_true',List.any_eq_false] at h;exact ⟨J,h.1.1,h.1.2,fun b I=>by simpa using h.2 b I⟩
 cases h
theorem BO:iN 39=true:=by decide
theorem BP:iN 10=true:=by decide
theorem mx {v:Vl} (h:eS v=true) {b:UInt8} (J:iN b=true):b∉v.word:=fun D=>by
 by_cases I:v.kind=1
 ·rw[(we h I).1] at D;cases D
 have:=(sn h I).2.2.2 b D;rw[J] at this;cases this
theorem so {v:Vl} (h:eS v=true):Whole (bd v):=by
 unfold bd;split
 ·refine mw fun b I=>?_
  rcases lL _ b I with rfl|D
  ·decide
  constructor
  ·rintro rfl;exact absurd D.1 (by decide)
  rintro rfl;exact absurd D.1 (by decide)
 exact qY (mx h BO)
theorem ux {v:Vl} (h:eS v=true):(10:UInt8)∉bd v:=by
 unfold bd;split
 ·intro I
  rcases lL _ _ I with D|D
  ·exact absurd D (by decide)
  exact absurd D.1 (by decide)
 have:=mx h BP;simp[this]
theorem sq (n:Int):eG (Lib.itoa n)=false:=by
 unfold eG
 cases D:Lib.itoa n with
 | nil=>rfl
 | cons b l =>
  have h:=lL n b (by rw[D];exact List.mem_cons_self ..);have:b≠39:=by
   rcases h with rfl|I
   ·decide
   rintro rfl;exact absurd I.1 (by decide)
  simp[this]
theorem sr (w:Bs):eG ([39]++w++[39])=true:=by
 unfold eG;simp
theorem BQ (w:Bs):(([39]++w++[39]:Bs).take (([39]++w++[39]:Bs).length-1)).drop 1=w:=by
 simp
theorem p6 {v:Vl} (h:eS v=true):pI (bd v)=some v:=by
 unfold pI EB bd;by_cases D:v.kind=1
 ·have I:=we h D
  rw[if_pos D,sq,if_neg (by simp),xo _ ⟨by omega,by omega⟩];simp only;have e:(⟨1,v.num,[]⟩:Vl)=v:=by
   obtain ⟨k,n,w⟩:=v;simp only at D I;rw[D,I.1]
  simp only[if_true];rw[e,if_pos h]
 have I:=sn h D;rw[if_neg D,sr,if_pos rfl,BQ];have e:(⟨2,0,v.word⟩:Vl)=v:=by
  obtain ⟨k,n,w⟩:=v;simp only at I;rw[I.1,I.2.1]
 simp only;rw[e,if_pos h]
theorem xp {s:Bs} (h:eG s=true):s=[39]++(s.take (s.length-1)).drop 1++[39]:=by
 unfold eG at h;simp only[Bool.and_eq_true,decide_eq_true_eq] at h;obtain ⟨⟨I,J⟩,D⟩:=h
 match s,I,J,D with
 | [],I,_,_=>simp at I
 | [_],I,_,_=>simp at I
 | a::b::t,_,J,D =>
  simp at J;subst J;obtain ⟨l,x,e⟩:∃ l x,b::t=l++[x]:=⟨(b::t).dropLast,(b::t).getLast (by simp),(List.dropLast_concat_getLast (by simp)).symm⟩
  rw[e] at D ⊢;simp at D;subst D;simp
theorem zE {s:Bs} {v:Vl} (h:pI s=some v):bd v=s∧eS v=true:=by
 unfold pI at h;split at h
 ·rename_i u D
  split at h
  ·rename_i I
   injection h with h;subst h;refine ⟨?_,I⟩;unfold EB at D;split at D
   ·rename_i M
    injection D with D;subst D;unfold bd;rw[if_neg (by simp)];exact (xp M).symm
   split at D
   ·split at D
    ·rename_i J
     injection D with D;subst D;unfold bd;rw[if_pos rfl];exact J
    cases D
   cases D
  cases h
 cases h
def bQ (r:List Vl):Bs:=cR 32 (r.map bd)
theorem p8 (r:List Vl):∀ k,k≤r.length→uj r k=cR 32 ((r.take k).map bd)
 | 0,_=>by simp[uj,cR]
 | k+1,h=>by
  have ih:=p8 r k (by omega);unfold uj;rw[ih,FA (by omega),List.take_succ_eq_append_getElem (by omega),List.map_append]
  cases k with
  | zero=>simp[cR]
  | succ k =>
   rw[if_neg (by omega),List.map_singleton,kj]
   ·simp
   cases r with
   | nil=>simp at h
   | cons a r=>simp
theorem zF (r:List Vl):uj r r.length=bQ r:=by
 rw[p8 r r.length (Fy _),List.take_length];rfl
theorem nD:∀ (ps:List Bs) (a r:List Vl),kM ps a=some r↔∃ q,r=a++q∧q.map bd=ps∧∀ v∈q,eS v=true
 | [],a,r=>by
  simp only[kM,Option.some.injEq];constructor
  ·rintro rfl;exact ⟨[],by simp⟩
  rintro ⟨q,rfl,D,_⟩;have:q=[]:=by simpa using D
  simp[this]
 | p::ps,a,r=>by
  simp only[kM]
  cases N:pI p with
  | none =>
   simp only;constructor
   ·intro h;cases h
   rintro ⟨q,_,D,M⟩
   cases q with
   | nil=>simp at D
   | cons v q =>
    simp at D;have:=p6 (M v (List.mem_cons_self ..));rw[D.1,N] at this;cases this
  | some v =>
   simp only;rw[nD ps (a++[v]) r];have M:=zE N;constructor
   ·rintro ⟨q,rfl,D,J⟩
    refine ⟨v::q,by simp,by simp[M.1,D],fun x I=>?_⟩;rcases List.mem_cons.1 I with rfl|I
    ·exact M.2
    exact J x I
   rintro ⟨q,rfl,D,J⟩
   cases q with
   | nil=>simp at D
   | cons u q =>
    simp at D;have:=p6 (J u (List.mem_cons_self ..));rw[D.1,N] at this;injection this with this;subst this;exact ⟨q,by simp,D.2,fun x I=>J x (List.mem_cons_of_mem _ I)⟩
theorem nE {cs:List Cl} {r:List Vl}:fv cs r=true↔mR cs r=true∧∀ v∈r,eS v=true:=by
 unfold fv mR;simp only[Bool.and_eq_true,decide_eq_true_eq,List.all_eq_true];constructor
 ·rintro ⟨I,D⟩
  refine ⟨⟨I,fun p N=>?_⟩,fun v J=>?_⟩
  ·obtain ⟨i,h,rfl⟩:=List.getElem_of_mem N
   have hi':i<r.length:=by rw[List.length_zip] at h;omega
   have:=D i (List.mem_range.2 hi');unfold ke at this;rw[FA hi',FA (by omega)] at this;simp at this;simp[this.1]
  obtain ⟨i,h,rfl⟩:=List.getElem_of_mem J;have:=D i (List.mem_range.2 h);unfold ke at this;rw[FA h,FA (by omega)] at this;simp at this;exact this.2
 rintro ⟨⟨I,D⟩,M⟩;refine ⟨I,fun i h=>?_⟩;have hi':i<r.length:=List.mem_range.1 h;unfold ke;rw[FA hi',FA (by omega)];have:=D (r[i],cs[i]) (by
  rw[List.mem_iff_getElem];exact ⟨i,by rw[List.length_zip];omega,by simp⟩)
 simp at this;simp[this,M _ (FE hi')]
theorem xq {cs:List Cl} {r:List Vl} (h:fv cs r=true) (D:r≠[]):mn cs (bQ r)=some r:=by
 obtain ⟨M,I⟩:=nE.1 h;unfold mn;have O:fU (bQ r)=r.map bd:=by
  rw[BN];refine sl (by simpa using D) fun u N=>?_
  obtain ⟨v,J,rfl⟩:=List.mem_map.1 N;exact so (I v J)
 rw[O,(nD _ [] r).2 ⟨r,rfl,rfl,I⟩];simp only;rw[if_pos M]
theorem qZ {cs:List Cl} {r:List Vl} (h:fv cs r=true):(10:UInt8)∉bQ r:=by
 have D:=(nE.1 h).2;unfold bQ;clear h
 induction r with
 | nil=>simp[cR]
 | cons v r ih =>
  have I:=ux (D v (List.mem_cons_self ..));have M:=ih (fun x J=>D x (List.mem_cons_of_mem _ J))
  cases r with
  | nil=>simpa[cR] using I
  | cons u r =>
   rw[List.map_cons,dG 32 _ (by simp)];simp only[List.mem_append,List.mem_cons,not_or];exact ⟨I,by decide,M⟩
theorem my (cs:List Cl) (M:cs≠[]):∀ (h:List (List Vl)) (i:Nat) (acc:List (List Vl)),(∀ r∈h,fv cs r=true)→(acc++h).length≤60→fh cs (h.map bQ++[[]]) i acc= .ok ⟨cs,acc++h⟩
 | [],i,acc,_,_=>by simp[fh]
 | r::h,i,acc,I,N=>by
  have J:=I r (List.mem_cons_self ..);have D:r≠[]:=by
   rintro rfl;have:=(nE.1 J).1;unfold mR at this;simp at this;exact M (List.eq_nil_of_length_eq_zero this.symm)
  rw[List.map_cons,List.cons_append];unfold fh;rw[if_neg (by simp),xq J D];simp only;simp only[Fz,FG] at N;rw[if_neg (by omega),my cs M h (i+1) (acc++[r]) (fun x O=>I x (List.mem_cons_of_mem _ O)) (by simp;omega)];simp
def fx (c:Cl):Bs:=c.name++58::eT c.kind.toNat
def eU (l:List Cl):Bs:=cR 32 (l.map fx)
theorem nF (l:List Cl):∀ k,k≤l.length→nu l k=cR 32 ((l.take k).map fx)
 | 0,_=>by simp[nu,cR]
 | k+1,h=>by
  have ih:=nF l k (by omega);unfold nu;rw[ih,FA (by omega),List.take_succ_eq_append_getElem (by omega),List.map_append]
  cases k with
  | zero=>simp[cR,fx]
  | succ k =>
   rw[if_neg (by omega),List.map_singleton,kj]
   ·simp[fx]
   cases l with
   | nil=>simp at h
   | cons a l=>simp
theorem xt (l:List Cl):nu l l.length=eU l:=by
 rw[nF l l.length (Fy _),List.take_length];rfl
theorem qa {l:List Cl} (h:cp l=true):∀ c∈l,eC c.name=true∧(c.kind=1∨c.kind=2):=fun c I=>by
 obtain ⟨i,D,rfl⟩:=List.getElem_of_mem I;unfold cp at h;simp only[Bool.and_eq_true,List.all_eq_true] at h;have:=h.2 i (List.mem_range.2 D);unfold fY at this;rw[FA D] at this;simp only[Bool.and_eq_true,Bool.or_eq_true,decide_eq_true_eq] at this;exact this.1
theorem su {l:List Cl} (h:cp l=true):l≠[]∧l.length≤6:=by
 unfold cp at h;simp only[Bool.and_eq_true,decide_eq_true_eq] at h;refine ⟨?_,h.1.2⟩;rintro rfl;simp at h
theorem qb {s:Bs} (h:eC s=true):∀ b∈s,dp.contains b=true:=by
 unfold eC at h;simp only[Bool.and_eq_true,List.all_eq_true] at h;exact h.2
theorem zG {b:UInt8} (h:dp.contains b=true):b≠10∧b≠32∧b≠58:=by
 refine ⟨?_,?_,?_⟩<;>(rintro rfl;exact absurd h (by decide))
theorem uy (j:Nat):∀ b∈eT j,b≠10∧b≠32:=by
 unfold eT;split<;>decide
theorem kQ {c:Cl} (h:eC c.name=true):(10:UInt8)∉fx c∧(32:UInt8)∉fx c:=by
 have J:=qb h;have I:=uy c.kind.toNat;unfold fx;simp only[List.mem_append,List.mem_cons,not_or];refine ⟨⟨fun D=>(zG (J _ D)).1 rfl,by decide,fun D=>(I _ D).1 rfl⟩,fun D=>(zG (J _ D)).2.1 rfl,by decide,fun D=>(I _ D).2 rfl⟩
theorem xu {c:Cl} (h:eC c.name=true) (D:c.kind=1∨c.kind=2):zy (fx c)=c:=by
 unfold zy fx;rw[sk 58 _ _ (fun I=>(zG (qb h _ I)).2.2 rfl)];obtain ⟨n,k⟩:=c;rcases D with D|D
 ·simp only at D;subst D;rfl
 simp only at D;subst D;rfl
theorem uz {l:List Cl} (h:cp l=true):bG (eU l)=l:=by
 have I:=qa h;unfold bG eU;rw[ko 32 (by simpa using (su h).1) (fun u J=>by
  obtain ⟨c,D,rfl⟩:=List.mem_map.1 J;exact (kQ (I c D).1).2),List.map_map]
 conv=>rhs;rw[←List.map_id l]
 exact List.map_congr_left fun c D=>xu (I c D).1 (I c D).2
theorem pO {l:List Cl} (h:cp l=true):(10:UInt8)∉eU l:=by
 have I:=qa h;unfold eU;clear h
 induction l with
 | nil=>simp[cR]
 | cons v r ih =>
  have D:=(kQ (I v (List.mem_cons_self ..)).1).1;have M:=ih (fun x J=>I x (List.mem_cons_of_mem _ J))
  cases r with
  | nil=>simpa[cR] using D
  | cons u r =>
   rw[List.map_cons,dG 32 _ (by simp)];simp only[List.mem_append,List.mem_cons,not_or];exact ⟨D,by decide,M⟩
theorem nG (D:List (List Vl)):∀ k,k≤D.length→pZ D k=(D.take k).flatMap fun r=>bQ r++[10]
 | 0,_=>by simp[pZ]
 | k+1,h=>by
  have ih:=nG D k (by omega);unfold pZ;rw[ih,FA (by omega),List.take_succ_eq_append_getElem (by omega),List.flatMap_append];simp[zF]
theorem nH:∀ h:List Bs,cR 10 (h++[[]])=h.flatMap fun l=>l++[10]
 | []=>rfl
 | l::h=>by
  rw[List.cons_append,dG 10 l (by simp),nH h];simp
theorem uB (t:Tb):im t=cR 10 (eU t.cols::t.rows.map bQ++[[]]):=by
 unfold im;rw[List.cons_append,dG 10 _ (by simp),nH,xt,nG _ _ (Fy _),List.take_length,List.flatMap_map];simp
theorem aG {t:Tb}:ak t=true↔cp t.cols=true∧t.rows.length≤60∧∀ r∈t.rows,fv t.cols r=true:=by
 unfold ak;simp only[Bool.and_eq_true,decide_eq_true_eq,List.all_eq_true];constructor
 ·rintro ⟨⟨a,b⟩,c⟩;exact ⟨a,b,c⟩
 rintro ⟨a,b,c⟩;exact ⟨⟨a,b⟩,c⟩
theorem sv {t:Tb} (h:ak t=true):dE (im t)= .ok t:=by
 obtain ⟨I,U,M⟩:=aG.1 h;have N:ax 10 (im t)=eU t.cols::t.rows.map bQ++[[]]:=by
  rw[uB];refine ko 10 (by simp) fun u D=>?_
  rw[List.cons_append,List.mem_cons,List.mem_append] at D;rcases D with rfl|D|D
  ·exact pO I
  ·obtain ⟨r,J,rfl⟩:=List.mem_map.1 D
   exact qZ (M r J)
  rw[List.mem_singleton] at D;subst D;simp
 have O:(ax 10 (im t)).headD []=eU t.cols:=by rw[N];rfl
 have Z:(ax 10 (im t)).tail=t.rows.map bQ++[[]]:=by rw[N];rfl
 have e3:bG ((ax 10 (im t)).headD [])=t.cols:=by rw[O,uz I]
 unfold dE;rw[Z];simp only[e3];rw[if_pos I,my t.cols (su I).1 t.rows 0 [] M (by simpa using U)];simp
end
section
open Go.RowKit
def strs (l:List Bs):List Value:=l.map fun s=>FM (bs s)
theorem ja (l:List Bs):(strs l).length=l.length:=by simp[strs]
theorem cC (l:List Bs) (k:Nat) (h:k<l.length):(strs l)[k]? = some (FM (bs l[k])):=by simp[strs,h]
theorem fE (l:List Bs) (s:Bs):strs (l++[s])=strs l++[FM (bs s)]:=by simp[strs]
theorem C7:(Tryz.prog.info? 9).map (fun i=>(i.zero,i.size,i.bytes))=some (some (FM ⟨#[]⟩),1,16):=by kernel_rfl
theorem jG {P:Program} {T:TypeId} (N:P.underlying T=some .string) (s:Bs) (D h:Nat) (U:D≤h) (J:h≤s.length) (W:World) :
  (Instr.slice T (FM (bs s)) (some (FR FS (D:Int))) (some (FR FS (h:Int))) none).run P W= .ok (FM (bs ((s.take h).drop D))) W:=by
 have M:(D:Int)≤(h:Int):=by omega
 have I:(h:Int)≤(s.length:Int):=by omega
 have e:(bs s).extract D h=bs ((s.take h).drop D):=ab s D h;rw[←e];have Z:h≤(bs s).size:=by rw[ag];exact J
 have O:(h:Int)≤((bs s).size:Int):=by rw[ag];exact I
 go_simp
end
section
open Go.RowKit
attribute [local go_sem] ag ab ae af
theorem rf {l:Bs} {v:Int} (h:Lib.atoiAll l= .ok v):ea v:=by
 unfold Lib.atoiAll at h;split at h
 ·cases h
 simp only at h;split at h
 ·cases h
 ·cases h
 rename_i u _;split at h
 ·cases h
 split at h
 ·cases h
 injection h with h;subst h;unfold ea;split<;>omega
theorem nQ (s:Bs) (Z:s.length≤1000000000) (w:World) (M:∃ t p,w.cell? ⟨6,0,none⟩=some (.iface t p)) (D:∃ t p,w.cell? ⟨7,0,none⟩=some (.iface t p)) :
  (∃ v,Lib.atoiAll s= .ok v∧ea v∧Calls Tryz.prog 83 #[FM (bs s)] w fun e w'=>e=FP (.tuple #[FR FS v,.nilIface])∧aa [] w w') ∨
  ((∀ v,Lib.atoiAll s≠ .ok v)∧Calls Tryz.prog 83 #[FM (bs s)] w fun e w'=>(∃ n t p,e=FP (.tuple #[FR FS n,.iface t p]))∧aa [] w w'):=by
 rcases h:Lib.atoiAll s with v|_|_
 ·
  left
  refine ⟨v,rfl,rf h,(Tryz.strconv_Atoi_ok (bs s) (by rw[ag];omega) v h w).mono ?_⟩;rintro e w' ⟨rfl,U⟩;refine ⟨rfl,?_⟩;rcases U with rfl|⟨t,rfl⟩
  ·exact FK _ _
  exact aa.of_below (Lib.bytesWorld_below _ _ _)
 ·
  right
  refine ⟨fun v O=>(by cases O),?_⟩;obtain ⟨t,p,J⟩:=M;refine (Tryz.strconv_Atoi_syntax (bs s) (by rw[ag];omega) h (.iface t p) w J (.inr ⟨_,_,rfl⟩)).mono ?_;rintro e w' ⟨N,rfl,_,_,I⟩;exact ⟨⟨_,_,_,rfl⟩,aa.of_below I⟩
 
 right
 refine ⟨fun v O=>(by cases O),?_⟩;obtain ⟨t,p,J⟩:=D;refine (Tryz.strconv_Atoi_range (bs s) (by rw[ag];omega) h (.iface t p) w J (.inr ⟨_,_,rfl⟩)).mono ?_;rintro e w' ⟨N,rfl,_,_,I⟩;exact ⟨⟨_,_,_,rfl⟩,aa.of_below I⟩
def Dc (k:Nat) (cap:Array Value) (p:Bs→Bool) (l:List Bs) (w:World):Prop :=
 ∀ c∈l,∀ W,aa [] w W→Calls Tryz.prog k (#[FM (bs c)]++cap) W fun e W'=>e=FP (.bool (p c))∧aa [] W W'
theorem n6 (k:Nat) (cap:Array Value) (he:∀ args w,(callFunc k args).run Tryz.prog w= .ok (.enter k args) w) (p:Bs→Bool) (l:List Bs) (A:Option Addr) (c:Nat) (w:World) (hR:Rd w [] 1 A l.length (strs l)) (Z:l.length≤4294967296) (hf:Dc k cap p l w) :
  Calls Tryz.prog 85 #[FN A l.length c,.func (.func k) #[] cap] w fun e w'=>e=FP (FR FS (bh p l))∧aa [] w w':=by
 have HR:=Fx hR;have HF:=Fx hf;clear hR hf;go_enter Tryz.func85,Tryz.ntmps85
 go_wp2;go_loopw [8] (fun i wr=>∃ n:Nat,n≤l.length∧i=FR FS n∧Hid (∀ j (I:j<n) (Z:j<l.length),p l[j]=false)∧aa [] w wr) (fun i _=>l.length-(intOf i).toNat)
 case atStart=>exact ⟨0,FF _,rfl,fun j I=>absurd I (by omega),FK _ _⟩
 obtain ⟨n,hn,rfl,J,U⟩:=hrel;by_cases M:n<l.length
 ·obtain ⟨b,o,rfl,_,hb,hc⟩:=(HR.out.keep U).open' (by omega) (by omega)
  have d1:=hc n _ (cC l n M);have HH:=HF.out l[n] (FE M) wr U;generalize hx:l[n]=x at *;have HX:=Fx hx;have HH':=Fx HH;clear HH hc hx
  cases O:p x with
  | true =>
   have D:bh p l=(n:Int):=dX M (fun j I=>J j I (by omega)) ((congrArg p HX.out).trans O);rw[O] at HH';have HP:=Fx D;clear D O;go_wp2_with fail
   refine HH'.out.mono ?_;rintro e W2 ⟨rfl,N⟩;go_wp2;go_ret;exact ⟨by rw[HP.out];rfl,U.trans N⟩
  | false =>
   have hno':Hid (∀ j (I:j<n+1) (Z:j<l.length),p l[j]=false):=fun j I Z=>by
    by_cases h:j<n
    ·exact J j h Z
    obtain rfl:j=n:=by omega
    exact (congrArg p HX.out).trans O
   rw[O] at HH';clear O;go_wp2_with fail
   refine HH'.out.mono ?_;rintro e W2 ⟨rfl,N⟩;go_wp2;go_roundw
   case rel=>exact ⟨n+1,by omega,by go_num,hno',U.trans N⟩
   case measure=>simp[intOf];omega
 have D:Hid (bh p l= -1):=dF fun j I=>J j (by omega) I
 go_wp2;go_ret;exact ⟨by rw[D.out];rfl,U⟩
theorem ge (k:Nat) (cap:Array Value) (I:∀ args w,(callFunc k args).run Tryz.prog w= .ok (.enter k args) w) (p:Bs→Bool) (l:List Bs) (A:Option Addr) (c:Nat) (w:World) (D:Rd w [] 1 A l.length (strs l)) (N:l.length≤4294967296) (J:Dc k cap p l w) :
  Calls Tryz.prog 53 #[FN A l.length c,.func (.func k) #[] cap] w fun e w'=>e=FP (.bool (l.any p))∧aa [] w w':=by
 have M:=Fx (n6 k cap I p l A c w D N J);clear D J I;rw[←dY];go_enter Tryz.func53,Tryz.ntmps53
 go_wp2_with (go_at_call 85;refine M.out.mono ?_;rintro e O ⟨rfl,h⟩)
 go_ret;exact ⟨rfl,h⟩
theorem xH (v:Bs) (l:List Bs) (A:Option Addr) (c:Nat) (w:World) (U:Rd w [] 1 A l.length (strs l)) (N:l.length≤4294967296) :
  Calls Tryz.prog 48 #[FN A l.length c,FM (bs v)] w fun e w'=>e=FP (FR FS (bh (fun t=>v==t) l))∧w=w':=by
 have HR:=Fx U;clear U;go_enter Tryz.func48,Tryz.ntmps48
 go_wp2;go_loop [8] (fun i=>∃ n:Nat,n≤l.length∧i=FR FS n∧Hid (∀ j (I:j<n) (N:j<l.length),(v==l[j])=false)) (fun i=>l.length-(intOf i).toNat)
 case atStart=>exact ⟨0,FF _,rfl,fun j I=>absurd I (by omega)⟩
 obtain ⟨n,hn,rfl,J⟩:=hrel;by_cases M:n<l.length
 ·obtain ⟨b,o,rfl,_,hb,O⟩:=HR.out.open' (by omega) (by omega)
  have d1:=O n _ (cC l n M);clear O
  cases Z:(v==l[n]) with
  | true =>
   have D:bh (fun t=>v==t) l=(n:Int):=dX M (fun j I=>J j I (by omega)) Z;have HP:=Fx D;clear D;go_wp2;go_ret;exact ⟨by rw[HP.out];rfl,rfl⟩
  | false =>
   have hno':Hid (∀ j (I:j<n+1) (N:j<l.length),(v==l[j])=false):=fun j I N=>by
    by_cases h:j<n
    ·exact J j h N
    obtain rfl:j=n:=by omega
    exact Z
   go_wp2;go_round
   case rel=>exact ⟨n+1,by omega,by go_num,hno'⟩
   case measure=>simp[intOf];omega
 have D:Hid (bh (fun t=>v==t) l= -1):=dF fun j I=>J j (by omega) I
 go_wp2;go_ret;exact ⟨by rw[D.out];rfl,rfl⟩
theorem la (v:Bs) (l:List Bs) (A:Option Addr) (c:Nat) (w:World) (h:Rd w [] 1 A l.length (strs l)) (I:l.length≤4294967296) :
  Calls Tryz.prog 34 #[FN A l.length c,FM (bs v)] w fun e w'=>e=FP (.bool (l.any fun t=>v==t))∧w=w':=by
 have D:=Fx (xH v l A c w h I);clear h;rw[←dY];go_enter Tryz.func34,Tryz.ntmps34
 go_wp2_with (go_at_call 48;refine D.out.mono ?_;rintro e J ⟨rfl,rfl⟩)
 go_ret;exact ⟨rfl,rfl⟩
theorem BZ (l:List Int) (k:Nat) (h:k<l.length):(l.map (Value.int .i64))[k]? = some (FR FS l[k]):=by simp[h]
theorem xI (v:Int) (l:List Int) (A:Option Addr) (c:Nat) (w:World) (U:Rd w [] 1 A l.length (l.map (Value.int .i64))) (N:l.length≤4294967296) :
  Calls Tryz.prog 86 #[FN A l.length c,FR FS v] w fun e w'=>e=FP (FR FS (bh (fun t=>v==t) l))∧w=w':=by
 have HR:=Fx U;clear U;go_enter Tryz.func86,Tryz.ntmps86
 go_wp2;go_loop [8] (fun i=>∃ n:Nat,n≤l.length∧i=FR FS n∧Hid (∀ j (I:j<n) (N:j<l.length),(v==l[j])=false)) (fun i=>l.length-(intOf i).toNat)
 case atStart=>exact ⟨0,FF _,rfl,fun j I=>absurd I (by omega)⟩
 obtain ⟨n,hn,rfl,J⟩:=hrel;by_cases M:n<l.length
 ·obtain ⟨b,o,rfl,_,hb,O⟩:=HR.out.open' (by omega) (by omega)
  have d1:=O n _ (BZ l n M);clear O
  cases Z:(v==l[n]) with
  | true =>
   have D:bh (fun t=>v==t) l=(n:Int):=dX M (fun j I=>J j I (by omega)) Z;have HP:=Fx D;clear D;go_wp2;go_ret;exact ⟨by rw[HP.out];rfl,rfl⟩
  | false =>
   have hno':Hid (∀ j (I:j<n+1) (N:j<l.length),(v==l[j])=false):=fun j I N=>by
    by_cases h:j<n
    ·exact J j h N
    obtain rfl:j=n:=by omega
    exact Z
   go_wp2;go_round
   case rel=>exact ⟨n+1,by omega,by go_num,hno'⟩
   case measure=>simp[intOf];omega
 have D:Hid (bh (fun t=>v==t) l= -1):=dF fun j I=>J j (by omega) I
 go_wp2;go_ret;exact ⟨by rw[D.out];rfl,rfl⟩
theorem ld (v:Int) (l:List Int) (A:Option Addr) (c:Nat) (w:World) (h:Rd w [] 1 A l.length (l.map (Value.int .i64))) (I:l.length≤4294967296) :
  Calls Tryz.prog 55 #[FN A l.length c,FR FS v] w fun e w'=>e=FP (.bool (l.any fun t=>v==t))∧w=w':=by
 have D:=Fx (xI v l A c w h I);clear h;rw[←dY];go_enter Tryz.func55,Tryz.ntmps55
 go_wp2_with (go_at_call 86;refine D.out.mono ?_;rintro e J ⟨rfl,rfl⟩)
 go_ret;exact ⟨rfl,rfl⟩
end
section
open Go.RowKit Go.Maps
def de (P:Program) (S E:TypeId) (w:World) (b n:Nat) (l:List Bs):Prop :=
 ∃ D:DataW Unit,w.ownsMap P S (plainElem P E) b n D∧∀ k:Bs,Maps.has D (.string k)=decide (k∈l)∧D.atKey (.string k) (.lit (.bool false))= .lit (.bool (decide (k∈l)))
section
variable {P:Program} {T S E:TypeId} {w w':World} {b n:Nat} {l:List Bs}
theorem de.lt (h:de P S E w b n l):b<w.heap.size:=by obtain ⟨D,h,_⟩:=h;exact h.lt
theorem de.made (w:World):de P S E (w.alloc (.map #[] 0)) w.heap.size 0 [] :=
 ⟨_,World.ownsMap_made w _ _ _,fun _=>⟨rfl,rfl⟩⟩
theorem de.of_block (h:de P S E w b n l) (O:w'.heap[b]? = w.heap[b]?):de P S E w' b n l:=by
 obtain ⟨D,⟨J,I,N,U⟩,M⟩:=h;exact ⟨D,⟨J,I,O.trans N,U⟩,M⟩
theorem de.keep {L:List Nat} (h:de P S E w b n l) (D:aa L w w') (I:b∉L):de P S E w' b n l:=h.of_block (D.block b h.lt I)
theorem de.mono (h:de P S E w b n l) {n':Nat} (I:n≤n'):de P S E w b n' l:=by
 obtain ⟨D,J,M⟩:=h;exact ⟨D,J.mono I,M⟩
theorem kH {v:Value} {d:DataW Unit} {ps:List MemPlace} (D:P.underlying E=some .bool) (h:plainElem P E v=some (d,ps)):∃ x,v= .bool x∧d= .lit (.bool x):=by
 simp only[plainElem,D] at h;cases v<;>simp at h
 exact ⟨_,rfl,h.1.symm⟩
theorem de.look (h:de P S E w b n l) (hT:P.underlying T=some (.map S E)) (N:P.underlying S=some .string) (O:P.underlying E=some .bool) (hz:(zeroValue E).run P w= .ok (.bool false) w) (k:Bs) (U:k.length≤maxLen) :
  (Instr.lookup T (.map (some b)) (.string (bs k)) false).run P w= .ok (.bool (decide (k∈l))) w:=by
 obtain ⟨D,h1,h2⟩:=h;have M:keyOf P S (.string (bs k))=some (.string k):=WideMaps.keyOf_string_mk N (by rw[ag];exact U);obtain ⟨v,ps,J,Z⟩:=h1.lookup (string_keyed N) hT hz (plainElem_bool O false) M;obtain ⟨x,rfl,I⟩:=kH O Z;rw[(h2 k).2] at I;injection I with I;injection I with I;rw[J,I]
theorem de.store (h:de P S E w b n l) (hT:P.underlying T=some (.map S E)) (Z:P.underlying S=some .string) (hE:P.underlying E=some .bool) (k:Bs) (hk:k.length≤maxLen) (hn:n<maxLen) :
  ∃ w',(Instr.mapUpdate T (.map (some b)) (.string (bs k)) (.bool true)).run P w= .ok () w'∧de P S E w' b (n+1) (k::l)∧w.grownBy w' (some b):=by
 obtain ⟨D,h1,O⟩:=h;have M:keyOf P S (.string (bs k))=some (.string k):=WideMaps.keyOf_string_mk Z (by rw[ag];exact hk);obtain ⟨w',J,h3,h4⟩:=h1.update (string_keyed Z) hT hn M (plainElem_bool hE true);have U:=h1.isMap;refine ⟨w',J,⟨_,h3,fun x=>?_⟩,h4⟩;by_cases N:x=k
 ·subst N
  exact ⟨by rw[has_put_same U (by trivial)];simp,by rw[atKey_put_same U (by trivial)];simp⟩
 have I:(Lit.string x)≠Lit.string k:=fun e=>N (by injection e)
 have hd:decide (x∈k::l)=decide (x∈l):=by simp[N]
 rw[hd];exact ⟨by rw[has_put_other I];exact (O x).1,by rw[atKey_put_other I];exact (O x).2⟩
end
end
section
open Go.RowKit
theorem tp (b o N:Nat) (h:1≤N) (M:N≤1000001):∃ A,(∀ W,(Instr.slice 44 (FN (some ⟨b,o,none⟩) N N) (some (FR FS 1)) none none).run Tryz.prog W= .ok (FN A (N-1) (N-1)) W)∧(1<N→A=some ⟨b,o+1,none⟩):=by
 have J:=Tryz.underlying44;have D:(1:Int)≤(N:Int):=by omega
 by_cases I:N=1
 ·subst I
  refine ⟨some ⟨b,o,none⟩,fun W=>?_,fun h=>absurd h (by omega)⟩;go_simp
 refine ⟨some ⟨b,o+1,none⟩,fun W=>?_,fun _=>rfl⟩;go_simp
def qG (ops:Array Oper):Bool:=(List.range ops.size).all fun i=>((ops[i]?).map fun o=>o.after.all fun e=>decide (e.on<i)).getD false
theorem oO {ops:Array Oper} (h:qG ops=true) {i:Nat} {o:Oper} (I:ops[i]? = some o) {e:Edge} (J:e∈o.after):e.on<i:=by
 have M:i<ops.size:=(Array.getElem?_eq_some_iff.1 I).1;have D:=List.all_eq_true.1 h i (List.mem_range.2 M);rw[I] at D;simp only[Option.map_some,Option.getD_some,Array.all_eq_true_iff_forall_mem] at D;simpa using D e J
def ib (L:Nat→Bool) (n:Nat):Nat:=(List.range n).countP fun i=> !L i
theorem oP {L:Nat→Bool} {n:Nat} (h:ib L n=0):∀ i,i<n→L i=true:=by
 intro i I;have D:=List.countP_eq_zero.1 h i (List.mem_range.2 I);simpa using D
def bA (L:Nat→Bool) (i:Nat):Nat→Bool:=fun j=>if j=i then true else L j
theorem ma {L:Nat→Bool} {i:Nat} (D:L i=false):∀ {n:Nat},i<n→ib (bA L i) n+1=ib L n
 | 0,h=>absurd h (by omega)
 | n+1,h=>by
  have e:∀ M:Nat→Bool,ib M (n+1)=ib M n+if M n then 0 else 1:=fun M=>by
   unfold ib;rw[List.range_succ,List.countP_append,List.countP_singleton];cases O:M n<;>simp
  rw[e,e];by_cases I:i=n
  ·subst I
   have J:ib (bA L i) i=ib L i:=by
    unfold ib;refine List.countP_congr fun x N=>?_
    have:=List.mem_range.1 N;unfold bA;rw[if_neg (by omega)]
   rw[J,D];simp[bA]
  have ih:=ma D (n:=n) (by omega);have e3:bA L i n=L n:=by unfold bA;rw[if_neg (fun h=>I h.symm)]
  rw[e3];omega
def iE (ops:Array Oper) (listed:Array Bool) (L:Nat→Bool):Prop:=listed.size=ops.size∧∀ i,i<ops.size→listed[i]? = some (L i)
theorem iE.set {ops:Array Oper} {listed:Array Bool} {L:Nat→Bool} (h:iE ops listed L) {i:Nat} (J:i<ops.size):iE ops (listed.setIfInBounds i true) (bA L i):=by
 refine ⟨by rw[Array.size_setIfInBounds];exact h.1,fun j I=>?_⟩;rw[Array.getElem?_setIfInBounds];unfold bA;by_cases D:i=j
 ·subst D
  rw[if_pos rfl,if_pos (by rw[h.1];exact I),if_pos rfl]
 rw[if_neg D,if_neg (fun e=>D e.symm)];exact h.2 j I
theorem iE.get {ops:Array Oper} {listed:Array Bool} {L:Nat→Bool} (h:iE ops listed L) {i:Nat} (D:i<ops.size) (d:Bool):listed.getD i d=L i:=by
 have:=h.2 i D;rw[Array.getD_eq_getD_getElem?,this];rfl
theorem mc {ops:Array Oper} {listed:Array Bool} {L:Nat→Bool} (hd:qG ops=true) (h:iE ops listed L) (i:Nat) :
  i∈Region.ready .any ops listed↔i<ops.size∧L i=false∧∀ o,ops[i]? = some o→∀ e∈o.after,Region.binds .any e=true→L e.on=true:=by
 unfold Region.ready;rw[List.mem_filter,List.mem_range];constructor
 ·rintro ⟨I,N⟩
  rw[Bool.and_eq_true,h.get I] at N;refine ⟨I,by simpa using N.1,fun o D e M O=>?_⟩;have J:=N.2;rw[D] at J;simp only[Option.map_some,Option.getD_some,Array.all_eq_true_iff_forall_mem] at J;have U:=J e M;rw[O,Bool.not_true,Bool.false_or,h.get (by have:=oO hd D M;omega)] at U;exact U
 rintro ⟨I,N,J⟩;refine ⟨I,?_⟩;rw[Bool.and_eq_true,h.get I,N];refine ⟨rfl,?_⟩;obtain ⟨o,D⟩:∃ o,ops[i]? = some o:=⟨_,Array.getElem?_eq_getElem I⟩
 rw[D];simp only[Option.map_some,Option.getD_some,Array.all_eq_true_iff_forall_mem];intro e M
 cases O:Region.binds .any e with
 | false=>rfl
 | true =>
  rw[Bool.not_true,Bool.false_or,h.get (by have:=oO hd D M;omega)];exact J o D e M O
theorem vw {ops:Array Oper} {L:Nat→Bool} (hd:qG ops=true):∀ (i:Nat),i<ops.size→L i=false→∃ j,j<ops.size∧L j=false∧∀ o,ops[j]? = some o→∀ e∈o.after,Region.binds .any e=true→L e.on=true:=by
 intro i
 induction i using Nat.strongRecOn with
 | ind i ih =>
  intro U O;by_cases J:∃ o,ops[i]? = some o∧∃ e∈o.after,Region.binds .any e=true∧L e.on=false
  ·obtain ⟨o,I,e,h,_,N⟩:=J
   have D:=oO hd I h;exact ih e.on D (by omega) N
  refine ⟨i,U,O,fun o I e h M=>?_⟩
  cases Z:L e.on with
  | true=>rfl
  | false=>exact absurd ⟨o,I,e,h,M,Z⟩ J
section
variable {P:Program} {ops:Array Oper} {Q:Exit→Act→World→Prop}
theorem qH (hd:qG ops=true) (I:(Nat→Bool)→Act→World→Prop)
  (hs:∀ i,i<ops.size→∀ L a w,L i=false→(∀ o,ops[i]? = some o→∀ e∈o.after,Region.binds .any e=true→L e.on=true)→I L a w→wpOp P ops Q i (I (bA L i)) a w)
  (O:∀ L a w,(∀ i,i<ops.size→L i=true)→I L a w→Q .normal a w) :
  ∀ (fuel:Nat) (listed:Array Bool) (L:Nat→Bool) (a:Act) (w:World),iE ops listed L→ib L ops.size≤fuel→I L a w→wpAny P .any ops Q fuel listed a w
 | 0,listed,L,a,w,J,hn,N=>by
  have D:=oP (Nat.le_zero.1 hn);refine ⟨List.eq_nil_iff_forall_not_mem.2 fun i M=>?_,O L a w D N⟩;have:=(mc hd J i).1 M;rw[D i this.1] at this;exact absurd this.2.1 (by decide)
 | fuel+1,listed,L,a,w,J,hn,N=>by
  refine ⟨fun hr=>O L a w (fun i M=>?_) N,fun i M=>?_⟩
  ·cases hl:L i with
   | true=>rfl
   | false =>
    obtain ⟨j,hj⟩:=vw hd i M hl;have:=(mc hd J j).2 hj;rw[hr] at this;cases this
  obtain ⟨U,Z,h3⟩:=(mc hd J i).1 M;have hc:=ma Z U;exact wpOp_mono (fun a' w' h=>qH hd I hs O fuel _ (bA L i) a' w' (J.set U) (by omega) h) (hs i U L a w Z h3 N)
theorem pS {id:Nat} {a:Act} {w:World} (N:P.follows .mixedOrders=true) (hd:qG ops=true) (I:(Nat→Bool)→Act→World→Prop)
  (D:I (fun _=>false) a w.drew)
  (h:∀ i,i<ops.size→∀ L a w,L i=false→(∀ o,ops[i]? = some o→∀ e∈o.after,Region.binds .any e=true→L e.on=true)→I L a w→wpOp P ops Q i (I (bA L i)) a w)
  (J:∀ L a w,(∀ i,i<ops.size→L i=true)→I L a w→Q .normal a w):(Code.region id ops true).wp P Q a w:=by
 refine wp_region_any N (qH hd I h J ops.size _ (fun _=>false) a _ ⟨by simp,fun i M=>by simp[M]⟩ ?_ D);unfold ib;refine FD List.countP_le_length (by simp)
theorem lB {i:Nat} {o:Oper} {a:Act} {w w':World} {u:Value} {K:Act→World→Prop} (D:ops[i]? = some o) (I:o.guard=none) (h:(execOp a.eval o).run P w= .ok (.value u) w') (J:K (a.put o.dst u) w'):wpOp P ops Q i K a w:=by
 unfold wpOp;simp only[D];rw[if_pos (by unfold Region.wanted;rw[I])];left
 unfold Oper.wp;rw[h];exact J
theorem dR {i:Nat} {o:Oper} {a:Act} {w w':World} {K:Act→World→Prop} (D:ops[i]? = some o) (I:o.guard=none) (h:(execOp a.eval o).run P w= .ok .skip w') (J:K (a.put o.dst undef) w'):wpOp P ops Q i K a w:=by
 unfold wpOp;simp only[D];rw[if_pos (by unfold Region.wanted;rw[I])];left
 unfold Oper.wp;rw[h];exact J
theorem Cj {i:Nat} {o:Oper} {a:Act} {w:World} {K:Act→World→Prop} (D:ops[i]? = some o) (I:o.guard=none) (h:o.wp P a w K Q):wpOp P ops Q i K a w:=by
 unfold wpOp;simp only[D];rw[if_pos (by unfold Region.wanted;rw[I])];exact .inl h
end
structure ig (ops:Array Oper) (v:Nat→Value) (L:Nat→Bool) (a0 a:Act):Prop where
 d:a.defers=a0.defers
 n:a.tmps.size=a0.tmps.size
 y:∀ i o k,ops[i]? = some o→o.dst=some k→L i=true→a.tmps.getD k undef=v i
 z:∀ k,(∀ i o,ops[i]? = some o→o.dst=some k→L i=false)→a.tmps.getD k undef=a0.tmps.getD k undef
def yI (ops:Array Oper) (n:Nat):Bool:=(List.range ops.size).all fun i=>match (ops[i]?).bind (·.dst) with
 | none=>true
 | some k=>decide (k<n)&&(List.range ops.size).all fun j=>decide (j=i)||decide ((ops[j]?).bind (·.dst)≠some k)
theorem Ck {ops:Array Oper} {n:Nat} (h:yI ops n=true) {i:Nat} {o:Oper} {k:Nat} (M:ops[i]? = some o) (O:o.dst=some k):k<n∧∀ j I,ops[j]? = some I→I.dst=some k→j=i:=by
 have U:i<ops.size:=(Array.getElem?_eq_some_iff.1 M).1;have D:=List.all_eq_true.1 h i (List.mem_range.2 U);simp only[M,Option.bind_some,O] at D;rw[Bool.and_eq_true] at D;refine ⟨of_decide_eq_true D.1,fun j I J hk'=>?_⟩;have hj':j<ops.size:=(Array.getElem?_eq_some_iff.1 J).1;have N:=List.all_eq_true.1 D.2 j (List.mem_range.2 hj');simp only[J,Option.bind_some,hk'] at N;simpa using N
theorem tD (t:Array Value) (d k:Nat) (u x:Value) (hd:d<t.size):(t.setIfInBounds d u).getD k x=if k=d then u else t.getD k x:=by
 rw[Array.getD_eq_getD_getElem?,Array.getD_eq_getD_getElem?,Array.getElem?_setIfInBounds];by_cases h:d=k
 ·subst h
  rw[if_pos rfl,if_pos hd,if_pos rfl];rfl
 rw[if_neg h,if_neg (fun e=>h e.symm)]
theorem ig.start (ops:Array Oper) (v:Nat→Value) (a:Act):ig ops v (fun _=>false) a a:=⟨rfl,rfl,(fun _ _ _ _ _ h=>by cases h),fun _ _=>rfl⟩
theorem ig.put {ops:Array Oper} {v:Nat→Value} {L:Nat→Bool} {a0 a:Act} {i:Nat} {o:Oper} (h:ig ops v L a0 a) (hb:yI ops a0.tmps.size=true) (ho:ops[i]? = some o):ig ops v (bA L i) a0 (a.put o.dst (v i)):=by
 cases hd:o.dst with
 | none =>
  refine ⟨h.d,h.n,fun j N k J I U=>?_,fun k hz=>?_⟩
  ·refine h.y j N k J I ?_
   unfold bA at U;split at U
   ·rename_i e
    subst e;rw[ho] at J;cases J
    rw[hd] at I;cases I
   exact U
  refine h.z k fun j N J I=>?_
  have:=hz j N J I;unfold bA at this;split at this
  ·cases this
  exact this
 | some k0 =>
  obtain ⟨Z,O⟩:=Ck hb ho hd;have M:(a.put (some k0) (v i)).tmps=a.tmps.setIfInBounds k0 (v i):=rfl;refine ⟨h.d,by rw[M,Array.size_setIfInBounds];exact h.n,fun j N k J I U=>?_,fun k hz=>?_⟩
  ·rw[M,tD _ _ _ _ _ (by rw[h.n];exact Z)]
   by_cases D:k=k0
   ·subst D
    rw[if_pos rfl,O j N J I]
   rw[if_neg D];refine h.y j N k J I ?_;unfold bA at U;split at U
   ·rename_i e
    subst e;rw[ho] at J;cases J
    rw[hd] at I;cases I
    exact absurd rfl D
   exact U
  rw[M,tD _ _ _ _ _ (by rw[h.n];exact Z)];by_cases D:k=k0
  ·have:=hz i o ho (by rw[D];exact hd)
   unfold bA at this;rw[if_pos rfl] at this;cases this
  rw[if_neg D];refine h.z k fun j N J I=>?_
  have:=hz j N J I;unfold bA at this;split at this
  ·cases this
  exact this
theorem ig.old {ops:Array Oper} {v:Nat→Value} {L:Nat→Bool} {I a:Act} (h:ig ops v L I a) (k:Nat) (D:(ops.any fun o=>decide (o.dst=some k))=false):a.tmps.getD k undef=I.tmps.getD k undef :=
 h.z k fun i o J hd=>by
  rw[Array.any_eq_false'] at D;exact absurd (decide_eq_true hd) (D o (Array.mem_of_getElem? J))
theorem ig.congr {ops:Array Oper} {v v':Nat→Value} {L:Nat→Bool} {I a:Act} (h:ig ops v L I a) (e:∀ i,L i=true→v i=v' i):ig ops v' L I a :=
 ⟨h.d,h.n,fun i o k M J D=>(h.y i o k M J D).trans (e i D),h.z⟩
def Cn (ops:Array Oper) (v:Nat→Value) (h:Act) (k:Nat):Value:=match (List.range ops.size).find? fun i=>decide ((ops[i]?).bind (·.dst)=some k) with
 | some i=>v i
 | none=>h.tmps.getD k undef
theorem ig.fin {ops:Array Oper} {v:Nat→Value} {L:Nat→Bool} {D a:Act} (h:ig ops v L D a) (I:∀ i,i<ops.size→L i=true):a=⟨((List.range D.tmps.size).map (Cn ops v D)).toArray,D.defers⟩:=by
 obtain ⟨t,d⟩:=a;have hd:d=D.defers:=h.d;have U:t.size=D.tmps.size:=h.n;subst hd;congr 1
 apply Array.ext
 ·simp[U]
 intro k Z h2;simp only[List.getElem_toArray,List.getElem_map,List.getElem_range];have e:t[k]=t.getD k undef:=by rw[Array.getD_eq_getD_getElem?,Array.getElem?_eq_getElem Z];rfl
 rw[e];unfold Cn
 cases N:(List.range ops.size).find? fun i=>decide ((ops[i]?).bind (·.dst)=some k) with
 | some i =>
  have O:=List.find?_some N;have M:=List.mem_range.1 (List.mem_of_find?_eq_some N);rw[decide_eq_true_iff] at O;obtain ⟨o,J⟩:∃ o,ops[i]? = some o:=⟨_,Array.getElem?_eq_getElem M⟩
  rw[J,Option.bind_some] at O;exact h.y i o k J O (I i M)
 | none =>
  refine h.z k fun i o J hd=>?_
  have M:i<ops.size:=(Array.getElem?_eq_some_iff.1 J).1;have:=List.find?_eq_none.1 N i (List.mem_range.2 M);rw[J,Option.bind_some,hd] at this;simp at this
def Ec (ops:Array Oper) (i j:Nat):Bool:=((ops[i]?).map fun o=>o.after.any fun e=>decide (e.on=j)&&Region.binds .any e).getD false
theorem AM {ops:Array Oper} {L:Nat→Bool} {i:Nat} (h:∀ o,ops[i]? = some o→∀ e∈o.after,Region.binds .any e=true→L e.on=true) (j:Nat) (D:Ec ops i j=true):L j=true:=by
 unfold Ec at D
 cases I:ops[i]? with
 | none=>rw[I] at D;cases D
 | some o =>
  rw[I] at D;simp only[Option.map_some,Option.getD_some] at D;obtain ⟨e,M,J⟩:=Array.any_eq_true'.1 D;rw[Bool.and_eq_true,decide_eq_true_iff] at J;have:=h o I e M J.2;rwa [J.1] at this
def oQ (C:Nat→Prop):Nat→Prop
 | 0=>True
 | n+1=>oQ C n∧C n
theorem oQ.at {C:Nat→Prop}:∀ {n:Nat},oQ C n→∀ i,i<n→C i
 | 0,_,i,D=>absurd D (by omega)
 | n+1,h,i,D=>by
  by_cases e:i=n
  ·subst e;exact h.2
  exact oQ.at h.1 i (by omega)
def De {G:Type} (P:Program) (ops:Array Oper) (Q:Exit→Act→World→Prop) (v:G→Nat→Value) (D:G→(Nat→Bool)→World→Prop) (h:Act) (i:Nat):Prop :=
 yI ops h.tmps.size=true→∀ g L a w,L i=false→(∀ j,Ec ops i j=true→L j=true)→ig ops (v g) L h a→D g L w→wpOp P ops Q i (fun J w'=>∃ I,ig ops (v I) (bA L i) h J∧D I (bA L i) w') a w
theorem pT {G:Type} {P:Program} {ops:Array Oper} {Q:Exit→Act→World→Prop} {id:Nat} {a:Act} {w:World} (hm:P.follows .mixedOrders=true) (hd:qG ops=true) (Z:yI ops a.tmps.size=true) (v:G→Nat→Value) (J:G→(Nat→Bool)→World→Prop)
  (M:∃ g,J g (fun _=>false) w.drew) (hs:oQ (De P ops Q v J a) ops.size)
  (hf:∀ g L w',(∀ i,i<ops.size→L i=true)→J g L w'→Q .normal ⟨((List.range a.tmps.size).map (Cn ops (v g) a)).toArray,a.defers⟩ w'):(Code.region id ops true).wp P Q a w:=by
 obtain ⟨U,M⟩:=M;refine pS hm hd (fun L I w'=>∃ g,ig ops (v g) L a I∧J g L w') ⟨U,ig.start ops (v U) a,M⟩ ?_ ?_
 ·rintro i hi L I w' hL D ⟨g,N,O⟩
  exact hs.at i hi Z g L I w' hL (AM D) N O
 rintro L I w' h ⟨g,N,O⟩;rw[N.fin h];exact hf g L w' h O
theorem am {G:Type} {P:Program} {ops:Array Oper} {Q:Exit→Act→World→Prop} {v:G→Nat→Value} {D:G→(Nat→Bool)→World→Prop} {h a:Act} {w:World} {i:Nat} {g:G} {L:Nat→Bool} {o:Oper} (I:ops[i]? = some o) (O:yI ops h.tmps.size=true) (U:o.guard=none) (Z:ig ops (v g) L h a) (hW:D g (bA L i) w)
  (M:(execOp a.eval o).run P w= .ok (.value (v g i)) w):wpOp P ops Q i (fun N w'=>∃ J,ig ops (v J) (bA L i) h N∧D J (bA L i) w') a w:=lB I U M ⟨g,Z.put O I,hW⟩
structure SR where
 A:Option Addr
 n:Nat
 c:Nat
 row:List Vl
def SR.v (x:SR):Value:=FN x.A x.n x.c
def bg (l:List SR) (rest:List Value):Array Value:=(l.map SR.v++rest).toArray
theorem qI (X Y:List SR) (x:SR) (rest:List Value) {i:Nat} (h:i=X.length):(bg (X++x::Y) rest)[i]? = some x.v:=by
 subst h;simp[bg,List.getElem?_append]
theorem rO (X Y:List SR) (x y:SR) (rest:List Value) {i:Nat} (h:i=X.length):(bg (X++x::Y) rest).setIfInBounds i y.v=bg (X++y::Y) rest:=by
 subst h;unfold bg;rw[List.setIfInBounds_toArray];congr 1
 rw[List.map_append,List.map_append,List.append_assoc,List.append_assoc,List.set_append_right _ _ (by simp)];simp
theorem rP {L:Nat→Bool} {k q:Nat} (h:L q=true):bA L k q=true:=by
 unfold bA;split
 ·rfl
 exact h
structure oR (y:World) (G:Nat) (T:TypeId) (cur:Array Value) (i j:Nat) (u v:Value) (l1 l2 s1 s2:Nat) (L:Nat→Bool) (w':World):Prop where
 d1:L s1=true→L l1=true∧L l2=true
 d2:L s2=true→L s1=true
 p0:L s1=false→aa [] y w'∧ao w' G T cur
 p1:L s1=true→L s2=false→aa [G] y w'∧ao w' G T (cur.setIfInBounds i u)
 p2:L s2=true→aa [G] y w'∧ao w' G T ((cur.setIfInBounds i u).setIfInBounds j v)
section
variable {y:World} {G:Nat} {T:TypeId} {cur:Array Value} {i j:Nat} {u v:Value} {l1 l2 s1 s2:Nat} {L:Nat→Bool} {w':World}
theorem oR.start (D:ao y G T cur):oR y G T cur i j u v l1 l2 s1 s2 (fun _=>false) y.drew :=
 ⟨(fun h=>by cases h),(fun h=>by cases h),fun _=>⟨(FK _ _).drew,D.drew⟩,(fun h=>by cases h),fun h=>by cases h⟩
theorem oR.far (h:oR y G T cur i j u v l1 l2 s1 s2 L w') {k:Nat} (O:k≠s1) (U:k≠s2):oR y G T cur i j u v l1 l2 s1 s2 (bA L k) w':=by
 have I:bA L k s1=L s1:=by unfold bA;rw[if_neg (Ne.symm O)]
 have J:bA L k s2=L s2:=by unfold bA;rw[if_neg (Ne.symm U)]
 have M:∀ q,L q=true→bA L k q=true:=fun q N=>rP N
 refine ⟨fun h'=>?_,fun h'=>?_,fun h'=>?_,fun h' D=>?_,fun h'=>?_⟩
 ·rw[I] at h';exact ⟨M _ (h.d1 h').1,M _ (h.d1 h').2⟩
 ·rw[J] at h';rw[I];exact h.d2 h'
 ·rw[I] at h';exact h.p0 h'
 ·rw[I] at h';rw[J] at D;exact h.p1 h' D
 rw[J] at h';exact h.p2 h'
theorem oR.ld1 (h:oR y G T cur i j u v l1 l2 s1 s2 L w') (D:L l1=false):aa [] y w'∧ao w' G T cur:=by
 refine h.p0 ?_
 cases I:L s1 with
 | false=>rfl
 | true=>rw[(h.d1 I).1] at D;cases D
theorem oR.ld2 (h:oR y G T cur i j u v l1 l2 s1 s2 L w') (D:L l2=false):aa [] y w'∧ao w' G T cur:=by
 refine h.p0 ?_
 cases I:L s1 with
 | false=>rfl
 | true=>rw[(h.d1 I).2] at D;cases D
theorem oR.b1 (h:oR y G T cur i j u v l1 l2 s1 s2 L w') (D:L s1=false) (h1:L l1=true) (Z:L l2=true) (hs:s1≠s2):oR y G T cur i j u v l1 l2 s1 s2 (bA L s1) (w'.setCell ⟨G,i,none⟩ u):=by
 obtain ⟨M,N⟩:=h.p0 D;have I:bA L s1 s1=true:=by unfold bA;rw[if_pos rfl]
 have O:bA L s1 s2=L s2:=by unfold bA;rw[if_neg (Ne.symm hs)]
 have J:∀ q,L q=true→bA L s1 q=true:=fun q hq=>rP hq
 have n2:L s2=false:=by
  cases U:L s2 with
  | false=>rfl
  | true=>rw[h.d2 U] at D;cases D
 refine ⟨fun _=>⟨J _ h1,J _ Z⟩,fun _=>I,fun h'=>?_,fun _ _=>⟨M.of_nil.setCell (.inl (by simp)) _,N.set i u⟩,fun h'=>?_⟩
 ·rw[I] at h';cases h'
 rw[O,n2] at h';cases h'
theorem oR.b2 (h:oR y G T cur i j u v l1 l2 s1 s2 L w') (J:L s2=false) (D:L s1=true) (O:s1≠s2):oR y G T cur i j u v l1 l2 s1 s2 (bA L s2) (w'.setCell ⟨G,j,none⟩ v):=by
 obtain ⟨N,Z⟩:=h.p1 D J;have U:bA L s2 s2=true:=by unfold bA;rw[if_pos rfl]
 have M:bA L s2 s1=L s1:=by unfold bA;rw[if_neg O]
 have I:∀ q,L q=true→bA L s2 q=true:=fun q hq=>rP hq
 refine ⟨fun _=>⟨I _ (h.d1 D).1,I _ (h.d1 D).2⟩,fun _=>I _ D,fun h'=>?_,fun _ h'=>?_,fun _=>⟨N.setCell (.inl (by simp)) _,Z.set j v⟩⟩
 ·rw[M,D] at h';cases h'
 rw[U] at h';cases h'
end
theorem wF (X Y Z:List SR) (x y:SR) (rest:List Value) {p q:Nat} (h:p=X.length) (D:q=X.length+1+Y.length):((bg (X++x::(Y++y::Z)) rest).setIfInBounds p y.v).setIfInBounds q x.v=bg (X++y::(Y++x::Z)) rest:=by
 rw[rO X (Y++y::Z) x y rest h];have e:∀ z:SR,X++y::(Y++z::Z)=(X++y::Y)++z::Z:=fun z=>by simp
 rw[e y,e x,rO _ Z y x rest (by rw[D];simp;omega)]
theorem tE (X Y Z:List SR) (x y:SR) (rest:List Value) {p q:Nat} (h:p=X.length) (D:q=X.length+1+Y.length):((bg (X++x::(Y++y::Z)) rest).setIfInBounds q x.v).setIfInBounds p y.v=bg (X++y::(Y++x::Z)) rest:=by
 have e:∀ z:SR,X++x::(Y++z::Z)=(X++x::Y)++z::Z:=fun z=>by simp
 rw[e y,rO _ Z y x rest (by rw[D];simp;omega),←e x,rO X (Y++x::Z) x y rest h]
theorem oS (X Y Z:List SR) (x y:SR) (rest:List Value) {q:Nat} (h:q=X.length+1+Y.length):(bg (X++x::(Y++y::Z)) rest)[q]? = some y.v:=by
 have e:X++x::(Y++y::Z)=(X++x::Y)++y::Z:=by simp
 rw[e];exact qI _ _ _ _ (by rw[h];simp;omega)
structure aH (y:World) (G:Nat) (rest:List Value) (l:List SR) (w:World):Prop where
 k:aa [G] y w
 b:ao w G 89 (bg l rest)
def qJ (ops:Array Oper):Bool:=(List.range ops.size).all fun i=>((ops[i]?).map fun o=>o.after.all fun e=> !Region.binds .any e||decide (e.on<i)).getD false
theorem oT {ops:Array Oper} (h:qJ ops=true) {i:Nat} {o:Oper} (I:ops[i]? = some o) {e:Edge} (M:e∈o.after) (N:Region.binds .any e=true):e.on<i:=by
 have O:i<ops.size:=(Array.getElem?_eq_some_iff.1 I).1;have D:=List.all_eq_true.1 h i (List.mem_range.2 O);rw[I] at D;simp only[Option.map_some,Option.getD_some,Array.all_eq_true_iff_forall_mem] at D;have J:=D e M;rw[N] at J;simpa using J
theorem kJ {ops:Array Oper} {listed:Array Bool} {L:Nat→Bool} (hd:qJ ops=true) (h:iE ops listed L) (i:Nat) :
  i∈Region.ready .any ops listed↔i<ops.size∧L i=false∧∀ o,ops[i]? = some o→∀ e∈o.after,Region.binds .any e=true→L e.on=true:=by
 unfold Region.ready;rw[List.mem_filter,List.mem_range];constructor
 ·rintro ⟨I,O⟩
  rw[Bool.and_eq_true,h.get I] at O;refine ⟨I,by simpa using O.1,fun o D e M N=>?_⟩;have J:=O.2;rw[D] at J;simp only[Option.map_some,Option.getD_some,Array.all_eq_true_iff_forall_mem] at J;have U:=J e M;rw[N,Bool.not_true,Bool.false_or,h.get (by have:=oT hd D M N;omega)] at U;exact U
 rintro ⟨I,O,J⟩;refine ⟨I,?_⟩;rw[Bool.and_eq_true,h.get I,O];refine ⟨rfl,?_⟩;obtain ⟨o,D⟩:∃ o,ops[i]? = some o:=⟨_,Array.getElem?_eq_getElem I⟩
 rw[D];simp only[Option.map_some,Option.getD_some,Array.all_eq_true_iff_forall_mem];intro e M
 cases N:Region.binds .any e with
 | false=>rfl
 | true =>
  rw[Bool.not_true,Bool.false_or,h.get (by have:=oT hd D M N;omega)];exact J o D e M N
theorem tF {ops:Array Oper} {L:Nat→Bool} (hd:qJ ops=true):∀ (i:Nat),i<ops.size→L i=false→∃ j,j<ops.size∧L j=false∧∀ o,ops[j]? = some o→∀ e∈o.after,Region.binds .any e=true→L e.on=true:=by
 intro i
 induction i using Nat.strongRecOn with
 | ind i ih =>
  intro Z U;by_cases M:∃ o,ops[i]? = some o∧∃ e∈o.after,Region.binds .any e=true∧L e.on=false
  ·obtain ⟨o,J,e,h,D,O⟩:=M
   have I:=oT hd J h D;exact ih e.on I (by omega) O
  refine ⟨i,Z,U,fun o J e h N=>?_⟩
  cases hl:L e.on with
  | true=>rfl
  | false=>exact absurd ⟨o,J,e,h,N,hl⟩ M
section
variable {P:Program} {ops:Array Oper} {Q:Exit→Act→World→Prop}
theorem oU (hd:qJ ops=true) (I:(Nat→Bool)→Act→World→Prop)
  (hs:∀ i,i<ops.size→∀ L a w,L i=false→(∀ o,ops[i]? = some o→∀ e∈o.after,Region.binds .any e=true→L e.on=true)→I L a w→wpOp P ops Q i (I (bA L i)) a w)
  (O:∀ L a w,(∀ i,i<ops.size→L i=true)→I L a w→Q .normal a w) :
  ∀ (fuel:Nat) (listed:Array Bool) (L:Nat→Bool) (a:Act) (w:World),iE ops listed L→ib L ops.size≤fuel→I L a w→wpAny P .any ops Q fuel listed a w
 | 0,listed,L,a,w,J,hn,N=>by
  have D:=oP (Nat.le_zero.1 hn);refine ⟨List.eq_nil_iff_forall_not_mem.2 fun i M=>?_,O L a w D N⟩;have:=(kJ hd J i).1 M;rw[D i this.1] at this;exact absurd this.2.1 (by decide)
 | fuel+1,listed,L,a,w,J,hn,N=>by
  refine ⟨fun hr=>O L a w (fun i M=>?_) N,fun i M=>?_⟩
  ·cases hl:L i with
   | true=>rfl
   | false =>
    obtain ⟨j,hj⟩:=tF hd i M hl;have:=(kJ hd J j).2 hj;rw[hr] at this;cases this
  obtain ⟨U,Z,h3⟩:=(kJ hd J i).1 M;have hc:=ma Z U;exact wpOp_mono (fun a' w' h=>oU hd I hs O fuel _ (bA L i) a' w' (J.set U) (by omega) h) (hs i U L a w Z h3 N)
theorem oV {id:Nat} {a:Act} {w:World} (N:P.follows .mixedOrders=true) (hd:qJ ops=true) (I:(Nat→Bool)→Act→World→Prop)
  (D:I (fun _=>false) a w.drew)
  (h:∀ i,i<ops.size→∀ L a w,L i=false→(∀ o,ops[i]? = some o→∀ e∈o.after,Region.binds .any e=true→L e.on=true)→I L a w→wpOp P ops Q i (I (bA L i)) a w)
  (J:∀ L a w,(∀ i,i<ops.size→L i=true)→I L a w→Q .normal a w):(Code.region id ops true).wp P Q a w:=by
 refine wp_region_any N (oU hd I h J ops.size _ (fun _=>false) a _ ⟨by simp,fun i M=>by simp[M]⟩ ?_ D);unfold ib;refine FD List.countP_le_length (by simp)
end
theorem eu {G:Type} {P:Program} {ops:Array Oper} {Q:Exit→Act→World→Prop} {id:Nat} {a:Act} {w:World} (hm:P.follows .mixedOrders=true) (hd:qJ ops=true) (Z:yI ops a.tmps.size=true) (v:G→Nat→Value) (J:G→(Nat→Bool)→World→Prop)
  (M:∃ g,J g (fun _=>false) w.drew) (hs:oQ (De P ops Q v J a) ops.size)
  (hf:∀ g L w',(∀ i,i<ops.size→L i=true)→J g L w'→Q .normal ⟨((List.range a.tmps.size).map (Cn ops (v g) a)).toArray,a.defers⟩ w'):(Code.region id ops true).wp P Q a w:=by
 obtain ⟨U,M⟩:=M;refine oV hm hd (fun L I w'=>∃ g,ig ops (v g) L a I∧J g L w') ⟨U,ig.start ops (v U) a,M⟩ ?_ ?_
 ·rintro i hi L I w' hL D ⟨g,N,O⟩
  exact hs.at i hi Z g L I w' hL (AM D) N O
 rintro L I w' h ⟨g,N,O⟩;rw[N.fin h];exact hf g L w' h O
end
end Go.Proofs.YtecpeogejjibaaaGreatDoor
