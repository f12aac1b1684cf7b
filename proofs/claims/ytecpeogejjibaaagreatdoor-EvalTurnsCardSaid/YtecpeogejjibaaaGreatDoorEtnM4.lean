/- A region that draws its order, whose operations only read and whose callees keep what was there: walked once, in the order of the text. strings.Builder, at this program: WriteString, String. table.Value. Tables as plain data: what is written is read again, and what is read is written so. No program in sight. Slices of texts. strconv.Atoi, as far as it is asked. slices.IndexFunc and ContainsFunc over texts, with a predicate that is handed in by its contract. slices.Contains at texts. slices.Contains at numbers. A map from texts to booleans, all of them true: a set of texts. lines[1:]. A region that draws its order, walked by a relation that each operation keeps, whatever has come up: for regions that make and write memory. No program in sight. Rows in a block: what two stores swap. As RegI, where an operation may name a later one that does not bind it (a swap's stores). No program in sight. -/
import Derived.Test.YtecpeogejjibaaaGreatDoorEtnM1
import Derived.Test.YtecpeogejjibaaaGreatDoorProg
import Derived.Shelf.Strings.Builder1
import Derived.Lib.OthersKept
import Derived.Test.YtecpeogejjibaaaGreatDoorShTab
import Derived.Sort.Grow
import Derived.Lib.ItoaLen
import Derived.Lib.ConvBytes
import Derived.Lib.AtoiAll
import Derived.Maps.Own
import Derived.Maps.OwnSet
import Derived.Maps.StringElems
import Derived.Orders
set_option linter.unusedSimpArgs false
set_option linter.unusedVariables false
set_option maxRecDepth 100000
set_option maxHeartbeats 16000000
namespace Go.Proofs.YtecpeogejjibaaaGreatDoor
open Go.Lib renaming hid → Fk
open _root_.Nat renaming le_refl → Fm, le_trans → Ft, zero_le → Fu
open _root_.List renaming length_append → Fo, getElem?_eq_getElem → Fp, getElem_mem → Fs, length_cons → Fv, length_take → Fw, getD_eq_getElem?_getD → Fy
open aa renaming refl → Fz
open Go.Value renaming string → FC, slice → FD, int → FH
open Go.Ending renaming returned → FF
open Go.IntKind renaming i64 → FI
section
open Go.RowKit
structure KW (w0:World) where
 w:World
 k:aa [] w0 w
instance (w0:World):Inhabited (KW w0):=⟨⟨w0,aa.refl [] w0⟩⟩
theorem ah {P:Program} {id:Nat} {Q:Exit→Act→World→Prop} {a:Act} {w:World} {l:List Oper} (I:P.follows .mixedOrders=true) (H:Region.lexB .any l.toArray=true)
  (h:wpQuiet P l.toArray (fun w'=>∃ p:KW w,w'=p.w) (fun D=>∀ w',aa [] w w'→Q .normal D w') l a):(Code.region id l.toArray true).wp P Q a w:=by
 have e:(fun D=>∀ w',aa [] w w'→Q .normal D w')=fun D=>∀ w',(∃ p:KW w,w'=p.w)→Q .normal D w':=by
  funext D
  exact propext ⟨fun h w' ⟨p,e⟩=>h w' (e ▸ p.k),fun h w' k=>h w' ⟨⟨w',k⟩,rfl⟩⟩
 rw[e] at h;exact wp_region_quiet (C:=fun w'=>∃ p:KW w,w'=p.w) I H ⟨⟨w.drew,(Fz [] w).drew⟩,rfl⟩ (by simpa using h)
theorem KW.cell {w0:World} (p:KW w0) (b o:Nat) (h:b<w0.heap.size):p.w.cell? ⟨b,o,none⟩=w0.cell? ⟨b,o,none⟩:=p.k.cell h (by simp)
theorem KW.of {P:Program} {f:FuncId} {args:Array Value} {w0:World} {v:Value} (h:∀ W,aa [] w0 W→Calls P f args W fun e W'=>e=FF v∧aa [] W W') (p:KW w0) :
  Calls P f args p.w fun e D=>e=FF v∧∃ q:KW w0,D=q.w :=
 (h p.w p.k).mono fun _ W' ⟨I,H⟩=>⟨I,⟨W',p.k.trans H⟩,rfl⟩
end
section
open Go.RowKit
attribute [local go_sem] ag ab ae af
def zI (w:World) (B b:Nat) (l:Bs):Prop:=Lib.IsBuilder 272 5 B b (Lib.byteCells l) w
theorem zI.alloc {w:World} {B b:Nat} {l:Bs} (h:zI w B b l) (o:Obj):zI (w.alloc o) B b l:=by
 have D:∀ p,Lib.BuilderAt 272 5 B b p (Lib.byteCells l) w→Lib.BuilderAt 272 5 B b p (Lib.byteCells l) (w.alloc o):=fun p M=>by
  obtain ⟨N,v,H,I,J⟩:=M;exact ⟨N,v,(Lib.alloc_old w o b (Array.getElem?_eq_some_iff.1 H).1).trans H,I.alloc o,J⟩
 rcases h with h|h
 ·exact .inl (D _ h)
 exact .inr (D _ h)
theorem zI.keep {w w':World} {B b:Nat} {l:Bs} (h:zI w B b l) (I:aa [] w w'):zI w' B b l:=by
 have D:∀ p,Lib.BuilderAt 272 5 B b p (Lib.byteCells l) w→Lib.BuilderAt 272 5 B b p (Lib.byteCells l) w':=fun p N=>by
  obtain ⟨O,v,H,J,M⟩:=N;exact ⟨O,v,(I.block b (Array.getElem?_eq_some_iff.1 H).1 (by simp)).trans H,aE J I (by simp),M⟩
 rcases h with h|h
 ·exact .inl (D _ h)
 exact .inr (D _ h)
theorem zI.lt {w:World} {B b:Nat} {l:Bs} (h:zI w B b l):b<w.heap.size:=by
 rcases h with ⟨_,v,D,_⟩|⟨_,v,D,_⟩
 ·exact (Array.getElem?_eq_some_iff.1 D).1
 exact (Array.getElem?_eq_some_iff.1 D).1
theorem zI.drew {w:World} {B b:Nat} {l:Bs} (h:zI w B b l):zI w.drew B b l:=h
end
section
open Go.RowKit Go.Sort
attribute [local go_sem] ag ab ae af
theorem iW {P:Program} {w w':World} {nm:String} {k:IntKind} {zs:List Int} (h:Lib.TabIs P w nm k zs) (J:aa [] w w'):Lib.TabIs P w' nm k zs:=by
 unfold Lib.TabIs World.var? at *
 cases I:P.globalNamed nm with
 | none=>rw[I] at h;cases h
 | some g =>
  rw[I] at h;simp only[Option.bind_some] at h ⊢
  cases H:w.heap[g]? with
  | none=>rw[H] at h;cases h
  | some o =>
   have D:g<w.heap.size:=(Array.getElem?_eq_some_iff.1 H).1;rw[J.block g D (by simp)];exact h
theorem nA (w:World) (os:Array Obj):aa [] w (grow w os) :=
 ⟨rfl,rfl,by unfold grow;simp,fun k h _=>by unfold grow;exact Array.getElem?_append_left h⟩
theorem xq (v:Vl) (H:dX v.num) (N:v.word.length≤1000000000) (w:World) (M:Lib.TabIs Tryz.prog w "internal/strconv.uint64pow10" .u64 Lib.pow10Tab) :
  Calls Tryz.prog 170 #[fV v] w fun e w'=>e=FF (FC (bs (aZ v)))∧aa [] w w':=by
 obtain ⟨k,n,s⟩:=v;simp only at H N;show Calls _ _ #[.agg #[FH FI k,FH FI n,FC (bs s)]] w _;have O:=Fk M;have J:=Fk H;clear M H;by_cases h:k=1
 ·have D:(k==1)=true:=by rw[h];rfl
  have I:Hid (aZ ⟨k,n,s⟩=Lib.itoa n):=Fk (if_pos h);clear h;go_enter Tryz.func170,Tryz.ntmps170
  go_wp2_with fail
  refine (Tryz.strconv_Itoa n J.out.1 J.out.2 _ (iW O.out ((Fz _ _).alloc _))).mono ?_;rintro e w' ⟨rfl,U,os,rfl⟩;go_wp2;go_ret;exact ⟨by rw[I.out];rfl,(((Fz _ _).alloc _).drewN _).trans (nA _ _)⟩
 have D:(k==1)=false:=by rw[beq_eq_false_iff_ne];exact h
 have I:Hid (aZ ⟨k,n,s⟩=[39]++s++[39]):=Fk (if_neg h);clear h;go_enter Tryz.func170,Tryz.ntmps170
 go_wp2;go_ret;exact ⟨by rw[I.out,←ae,←ae];rfl,(Fz _ _).alloc _⟩
end
section
def cQ (c:UInt8):List Bs→Bs
 | []=>[]
 | [a]=>a
 | a::b::t=>a++c::cQ c (b::t)
theorem dC (c:UInt8) (a:Bs) {l:List Bs} (h:l≠[]):cQ c (a::l)=a++c::cQ c l:=by
 cases l with
 | nil=>exact absurd rfl h
 | cons b t=>rfl
theorem kj (c:UInt8) (x:Bs):∀ {l:List Bs},l≠[]→cQ c (l++[x])=cQ c l++c::x
 | [],h=>absurd rfl h
 | [a],_=>rfl
 | a::b::t,_=>by
  have ih:=kj c x (l:=b::t) (by simp);rw[List.cons_append,dC c a (by simp),dC c a (by simp),ih];simp
def gr (p:Bs):List Bs→List Bs
 | []=>[p]
 | h::t=>(p++h)::t
theorem wu (p:Bs) (l:List Bs):gr p l≠[]:=by cases l<;>simp[gr]
theorem fA (p r:Bs) (l:List Bs):gr p (gr r l)=gr (p++r) l:=by cases l<;>simp[gr]
theorem kN {l:List Bs} (h:l≠[]):gr [] l=l:=by
 cases l with
 | nil=>exact absurd rfl h
 | cons=>rfl
theorem j5 (c:UInt8):∀ s:Bs,ax c s≠[]
 | []=>by simp[ax]
 | b::l=>by
  unfold ax;split
  ·simp
  split<;>simp
theorem my (c b:UInt8) (l:Bs):ax c (b::l)=if b=c then []::ax c l else gr [b] (ax c l):=by
 conv=>lhs;unfold ax
 split
 ·rfl
 split
 ·rename_i h t D;rw[D];rfl
 rename_i D;exact absurd D (j5 c l)
theorem kn (c:UInt8) (r:Bs):∀ p:Bs,c∉p→ax c (p++r)=gr p (ax c r)
 | [],_=>(kN (j5 c r)).symm
 | b::p,h=>by
  have ih:=kn c r p (fun H=>h (List.mem_cons_of_mem _ H));have D:b≠c:=fun e=>h (by rw[e];exact List.mem_cons_self ..)
  rw[List.cons_append,my,if_neg D,ih,fA];rfl
theorem ko (c:UInt8):∀ {l:List Bs},l≠[]→(∀ u∈l,c∉u)→ax c (cQ c l)=l
 | [],h,_=>absurd rfl h
 | [a],_,D=>by
  have:=kn c [] a (D a (List.mem_cons_self ..));rw[List.append_nil] at this;show ax c a=_;rw[this];simp[ax,gr]
 | a::b::t,_,D=>by
  have ih:=ko c (l:=b::t) (by simp) (fun u H=>D u (List.mem_cons_of_mem _ H));rw[dC c a (by simp),kn c _ a (D a (List.mem_cons_self ..)),my,if_pos rfl,ih];simp[gr]
theorem sq (c:UInt8) (r:Bs):∀ p:Bs,c∉p→fT c (p++c::r)=(p,r)
 | [],_=>by simp[fT]
 | b::p,h=>by
  have D:b≠c:=fun e=>h (by rw[e];exact List.mem_cons_self ..)
  rw[List.cons_append];unfold fT;rw[if_neg D,sq c r p (fun H=>h (List.mem_cons_of_mem _ H))]
def fu:Bool→Bs→List Bs
 | _,[]=>[[]]
 | q,b::l=>if b=39 then gr [b] (fu (!q) l) else if b=32 && !q then []::fu q l else gr [b] (fu q l)
theorem q9 (q:Bool) (l:Bs):fu q l≠[]:=by
 cases l with
 | nil=>simp[fu]
 | cons b l =>
  unfold fu;split
  ·exact wu _ _
  split
  ·simp
  exact wu _ _
theorem nj (s:Bs):∀ (m k:Nat),k+m=s.length→∀ o f q,ef s k=(o,f,q)→f≤k→fU s=o++gr ((s.take k).drop f) (fu q (s.drop k))
 | 0,k,N,o,f,q,J,U=>by
  obtain rfl:k=s.length:=by omega
  unfold fU;rw[J,List.drop_length,List.take_length];simp[fu,gr]
 | m+1,k,N,o,f,q,J,U=>by
  have h:k<s.length:=by omega
  have O:s.getD k 0=s[k]:=by rw[Fy,Fp h];rfl
  have hd:s.drop k=s[k]::s.drop (k+1):=List.drop_eq_getElem_cons h;have M:(s.take (k+1)).drop f=(s.take k).drop f++[s[k]]:=by
   rw[List.take_succ_eq_append_getElem h,List.drop_append_of_le_length (by rw[Fw];omega)]
  have D:ef s (k+1)=(if s[k]=39 then (o,f,!q) else if s[k]=32 && !q then (o++[(s.take k).drop f],k+1,q) else (o,f,q)):=by
   conv=>lhs;unfold ef
   rw[J,O]
  rw[hd];unfold fu;by_cases I:s[k]=39
  ·rw[if_pos I] at D ⊢
   rw[nj s m (k+1) (by omega) _ _ _ D (by omega),M,fA]
  rw[if_neg I] at D ⊢;by_cases H:(s[k]=32 && !q)=true
  ·rw[if_pos H] at D ⊢
   rw[nj s m (k+1) (by omega) _ _ _ D (by omega)];have e:(s.take (k+1)).drop (k+1)=[]:=List.drop_of_length_le (by rw[Fw];omega);rw[e,kN (q9 _ _)];simp[gr]
  rw[if_neg H] at D ⊢;rw[nj s m (k+1) (by omega) _ _ _ D (by omega),M,fA]
theorem BN (s:Bs):fU s=fu false s:=by
 rw[nj s s.length 0 (by omega) [] 0 false rfl (Fm _)];simp[kN (q9 _ _)]
def Whole (p:Bs):Prop:=∀ r,fu false (p++r)=gr p (fu false r)
theorem mz:∀ {p:Bs},(∀ b∈p,b≠39∧b≠32)→Whole p
 | [],_=>fun r=>(kN (q9 _ _)).symm
 | b::p,h=>fun r=>by
  have D:=h b (List.mem_cons_self ..);have ih:=mz (p:=p) (fun x H=>h x (List.mem_cons_of_mem _ H)) r;rw[List.cons_append];conv=>lhs;unfold fu
  rw[if_neg D.1,if_neg (by simp[D.2]),ih,fA];rfl
theorem qd (r:Bs):∀ w:Bs,(39:UInt8)∉w→fu true (w++39::r)=gr (w++[39]) (fu false r)
 | [],_=>by
  show fu true (39::r)=_;conv=>lhs;unfold fu
  rw[if_pos rfl];rfl
 | b::w,h=>by
  have D:b≠39:=fun e=>h (by rw[e];exact List.mem_cons_self ..)
  rw[List.cons_append];conv=>lhs;unfold fu
  rw[if_neg D,if_neg (by simp),qd r w (fun H=>h (List.mem_cons_of_mem _ H)),fA];rfl
theorem ra {w:Bs} (h:(39:UInt8)∉w):Whole ([39]++w++[39]):=fun r=>by
 have e:[39]++w++[39]++r=39::(w++39::r):=by simp
 rw[e];conv=>lhs;unfold fu
 rw[if_pos rfl];show gr [39] (fu true _)=_;rw[qd r w h,fA];simp
theorem sr:∀ {l:List Bs},l≠[]→(∀ u∈l,Whole u)→fu false (cQ 32 l)=l
 | [],h,_=>absurd rfl h
 | [a],_,D=>by
  have:=D a (List.mem_cons_self ..) [];rw[List.append_nil] at this;show fu false a=_;rw[this];simp[fu,gr]
 | a::b::t,_,D=>by
  have ih:=sr (l:=b::t) (by simp) (fun u H=>D u (List.mem_cons_of_mem _ H));rw[dC 32 a (by simp),D a (List.mem_cons_self ..)];conv=>lhs;unfold fu
  rw[if_neg (by decide),if_pos (by decide),ih];simp[gr]
theorem lH (u:Nat):∀ b∈Lib.decDigits u,48≤b.toNat∧b.toNat≤57:=by
 induction u using Nat.strongRecOn with
 | _ u ih =>
  intro b h;rw[Lib.decDigits] at h;split at h
  ·rw[List.mem_singleton] at h
   subst h;rw[UInt8.toNat_ofNat'];omega
  rw[List.mem_append,List.mem_singleton] at h;rcases h with h|rfl
  ·exact ih (u / 10) (by omega) b h
  rw[UInt8.toNat_ofNat'];omega
theorem zJ (u:Nat):Lib.decDigits u≠[]:=by
 rw[Lib.decDigits];split<;>simp
theorem nB (d:UInt8) (hd:48≤d.toNat∧d.toNat≤57):∀ (l:Bs) (a v:Nat),Lib.parseUint10 a l= .ok v→v<1844674407370955161→Lib.parseUint10 a (l++[d])= .ok (v*10+(d.toNat-48))
 | [],a,v,h,D=>by
  simp only[Lib.parseUint10] at h;injection h with h;subst h;simp only[List.nil_append,Lib.parseUint10];rw[if_pos hd,if_neg (by omega),if_neg (by omega)]
 | c::l,a,v,h,D=>by
  simp only[List.cons_append,Lib.parseUint10] at h ⊢;split at h
  ·rename_i J
   rw[if_pos J];split at h
   ·cases h
   rename_i I;rw[if_neg I];split at h
   ·cases h
   rename_i H;rw[if_neg H];exact nB d hd l _ v h D
  cases h
theorem qe (u:Nat) (h:u<18446744073709551610):Lib.parseUint10 0 (Lib.decDigits u)= .ok u:=by
 induction u using Nat.strongRecOn with
 | _ u ih =>
  rw[Lib.decDigits];split
  ·simp only[Lib.parseUint10]
   have e:(UInt8.ofNat (48+u)).toNat=48+u:=by rw[UInt8.toNat_ofNat'];omega
   rw[e,if_pos (by omega),if_neg (by omega),if_neg (by omega)];congr 1
   omega
  have e:(UInt8.ofNat (48+u % 10)).toNat=48+u % 10:=by rw[UInt8.toNat_ofNat'];omega
  rw[nB _ (by rw[e];omega) _ 0 (u / 10) (ih (u / 10) (by omega) (by omega)) (by omega),e];congr 1
  omega
theorem lI (n:Int):∀ b∈Lib.itoa n,b=45∨(48≤b.toNat∧b.toNat≤57):=fun b h=>by
 unfold Lib.itoa at h;split at h
 ·rcases List.mem_cons.1 h with rfl|h
  ·exact .inl rfl
  exact .inr (lH _ b h)
 exact .inr (lH _ b h)
theorem xy (n:Int) (h:dX n):Lib.atoiAll (Lib.itoa n)= .ok n:=by
 unfold dX at h;unfold Lib.itoa;split
 ·rename_i I
  have D:=qe n.natAbs (by omega);simp only[Lib.atoiAll];rw[if_pos (by decide)];unfold Lib.parseMag;rw[if_neg (zJ _),D];simp only;rw[if_neg (by simp),if_neg (by omega)];have H:(45:UInt8).toNat=45:=rfl;rw[if_pos H];congr 1
  omega
 rename_i I;have D:=qe n.toNat (by omega)
 cases hd:Lib.decDigits n.toNat with
 | nil=>exact absurd hd (zJ _)
 | cons c r =>
  have J:=lH n.toNat c (by rw[hd];exact List.mem_cons_self ..);rw[hd] at D;simp only[Lib.atoiAll];rw[if_neg (by omega)];unfold Lib.parseMag;rw[if_neg (by simp),D];simp only;rw[if_neg (by omega),if_neg (by omega),if_neg (by omega)];congr 1
  omega
theorem wv {v:Vl} (h:eO v=true) (D:v.kind=1):v.word=[]∧ -1000000000≤v.num∧v.num≤1000000000:=by
 unfold eO at h;rw[if_pos D] at h;simpa[and_assoc] using h
theorem su {v:Vl} (h:eO v=true) (I:v.kind≠1):v.kind=2∧v.num=0∧v.word.length≤16∧∀ b∈v.word,iN b=false:=by
 unfold eO at h;rw[if_neg I] at h;split at h
 ·rename_i H
  simp only[Bool.and_eq_true,decide_eq_true_eq,Bool.not_eq_true',List.any_eq_false] at h;exact ⟨H,h.1.1,h.1.2,fun b D=>by simpa using h.2 b D⟩
 cases h
theorem BO:iN 39=true:=by decide
theorem BP:iN 10=true:=by decide
theorem mB {v:Vl} (h:eO v=true) {b:UInt8} (I:iN b=true):b∉v.word:=fun D=>by
 by_cases H:v.kind=1
 ·rw[(wv h H).1] at D;cases D
 have:=(su h H).2.2.2 b D;rw[I] at this;cases this
theorem sv {v:Vl} (h:eO v=true):Whole (aZ v):=by
 unfold aZ;split
 ·refine mz fun b H=>?_
  rcases lI _ b H with rfl|D
  ·decide
  constructor
  ·rintro rfl;exact absurd D.1 (by decide)
  rintro rfl;exact absurd D.1 (by decide)
 exact ra (mB h BO)
theorem uF {v:Vl} (h:eO v=true):(10:UInt8)∉aZ v:=by
 unfold aZ;split
 ·intro H
  rcases lI _ _ H with D|D
  ·exact absurd D (by decide)
  exact absurd D.1 (by decide)
 have:=mB h BP;simp[this]
theorem sw (n:Int):ew (Lib.itoa n)=false:=by
 unfold ew
 cases D:Lib.itoa n with
 | nil=>rfl
 | cons b l =>
  have h:=lI n b (by rw[D];exact List.mem_cons_self ..);have:b≠39:=by
   rcases h with rfl|H
   ·decide
   rintro rfl;exact absurd H.1 (by decide)
  simp[this]
theorem sx (w:Bs):ew ([39]++w++[39])=true:=by
 unfold ew;simp
theorem BQ (w:Bs):(([39]++w++[39]:Bs).take (([39]++w++[39]:Bs).length-1)).drop 1=w:=by
 simp
theorem qf {v:Vl} (h:eO v=true):pM (aZ v)=some v:=by
 unfold pM Es aZ;by_cases D:v.kind=1
 ·have H:=wv h D
  rw[if_pos D,sw,if_neg (by simp),xy _ ⟨by omega,by omega⟩];simp only;have e:(⟨1,v.num,[]⟩:Vl)=v:=by
   obtain ⟨k,n,w⟩:=v;simp only at D H;rw[D,H.1]
  simp only[if_true];rw[e,if_pos h]
 have H:=su h D;rw[if_neg D,sx,if_pos rfl,BQ];have e:(⟨2,0,v.word⟩:Vl)=v:=by
  obtain ⟨k,n,w⟩:=v;simp only at H;rw[H.1,H.2.1]
 simp only;rw[e,if_pos h]
theorem xz {s:Bs} (h:ew s=true):s=[39]++(s.take (s.length-1)).drop 1++[39]:=by
 unfold ew at h;simp only[Bool.and_eq_true,decide_eq_true_eq] at h;obtain ⟨⟨D,I⟩,H⟩:=h
 match s,D,I,H with
 | [],D,_,_=>simp at D
 | [_],D,_,_=>simp at D
 | a::b::t,_,I,H =>
  simp at I;subst I;obtain ⟨l,x,e⟩:∃ l x,b::t=l++[x]:=⟨(b::t).dropLast,(b::t).getLast (by simp),(List.dropLast_concat_getLast (by simp)).symm⟩
  rw[e] at H ⊢;simp at H;subst H;simp
theorem zK {s:Bs} {v:Vl} (h:pM s=some v):aZ v=s∧eO v=true:=by
 unfold pM at h;split at h
 ·rename_i u D
  split at h
  ·rename_i I
   injection h with h;subst h;refine ⟨?_,I⟩;unfold Es at D;split at D
   ·rename_i J
    injection D with D;subst D;unfold aZ;rw[if_neg (by simp)];exact (xz J).symm
   split at D
   ·split at D
    ·rename_i H
     injection D with D;subst D;unfold aZ;rw[if_pos rfl];exact H
    cases D
   cases D
  cases h
 cases h
def bM (r:List Vl):Bs:=cQ 32 (r.map aZ)
theorem qg (r:List Vl):∀ k,k≤r.length→uv r k=cQ 32 ((r.take k).map aZ)
 | 0,_=>by simp[uv,cQ]
 | k+1,h=>by
  have ih:=qg r k (by omega);unfold uv;rw[ih,Fp (by omega),List.take_succ_eq_append_getElem (by omega),List.map_append]
  cases k with
  | zero=>simp[cQ]
  | succ k =>
   rw[if_neg (by omega),List.map_singleton,kj]
   ·simp
   cases r with
   | nil=>simp at h
   | cons a r=>simp
theorem zL (r:List Vl):uv r r.length=bM r:=by
 rw[qg r r.length (Fm _),List.take_length];rfl
theorem nD:∀ (ps:List Bs) (a r:List Vl),kK ps a=some r↔∃ q,r=a++q∧q.map aZ=ps∧∀ v∈q,eO v=true
 | [],a,r=>by
  simp only[kK,Option.some.injEq];constructor
  ·rintro rfl;exact ⟨[],by simp⟩
  rintro ⟨q,rfl,D,_⟩;have:q=[]:=by simpa using D
  simp[this]
 | p::ps,a,r=>by
  simp only[kK]
  cases M:pM p with
  | none =>
   simp only;constructor
   ·intro h;cases h
   rintro ⟨q,_,D,I⟩
   cases q with
   | nil=>simp at D
   | cons v q =>
    simp at D;have:=qf (I v (List.mem_cons_self ..));rw[D.1,M] at this;cases this
  | some v =>
   simp only;rw[nD ps (a++[v]) r];have I:=zK M;constructor
   ·rintro ⟨q,rfl,D,J⟩
    refine ⟨v::q,by simp,by simp[I.1,D],fun x H=>?_⟩;rcases List.mem_cons.1 H with rfl|H
    ·exact I.2
    exact J x H
   rintro ⟨q,rfl,D,J⟩
   cases q with
   | nil=>simp at D
   | cons u q =>
    simp at D;have:=qf (J u (List.mem_cons_self ..));rw[D.1,M] at this;injection this with this;subst this;exact ⟨q,by simp,D.2,fun x H=>J x (List.mem_cons_of_mem _ H)⟩
theorem nE {cs:List Cl} {r:List Vl}:ft cs r=true↔mV cs r=true∧∀ v∈r,eO v=true:=by
 unfold ft mV;simp only[Bool.and_eq_true,decide_eq_true_eq,List.all_eq_true];constructor
 ·rintro ⟨H,D⟩
  refine ⟨⟨H,fun p J=>?_⟩,fun v M=>?_⟩
  ·obtain ⟨i,h,rfl⟩:=List.getElem_of_mem J
   have hi':i<r.length:=by rw[List.length_zip] at h;omega
   have:=D i (List.mem_range.2 hi');unfold ke at this;rw[Fp hi',Fp (by omega)] at this;simp at this;simp[this.1]
  obtain ⟨i,h,rfl⟩:=List.getElem_of_mem M;have:=D i (List.mem_range.2 h);unfold ke at this;rw[Fp h,Fp (by omega)] at this;simp at this;exact this.2
 rintro ⟨⟨H,D⟩,I⟩;refine ⟨H,fun i h=>?_⟩;have hi':i<r.length:=List.mem_range.1 h;unfold ke;rw[Fp hi',Fp (by omega)];have:=D (r[i],cs[i]) (by
  rw[List.mem_iff_getElem];exact ⟨i,by rw[List.length_zip];omega,by simp⟩)
 simp at this;simp[this,I _ (Fs hi')]
theorem xB {cs:List Cl} {r:List Vl} (h:ft cs r=true) (D:r≠[]):mw cs (bM r)=some r:=by
 obtain ⟨M,H⟩:=nE.1 h;unfold mw;have I:fU (bM r)=r.map aZ:=by
  rw[BN];refine sr (by simpa using D) fun u J=>?_
  obtain ⟨v,N,rfl⟩:=List.mem_map.1 J;exact sv (H v N)
 rw[I,(nD _ [] r).2 ⟨r,rfl,rfl,H⟩];simp only;rw[if_pos M]
theorem re {cs:List Cl} {r:List Vl} (h:ft cs r=true):(10:UInt8)∉bM r:=by
 have D:=(nE.1 h).2;unfold bM;clear h
 induction r with
 | nil=>simp[cQ]
 | cons v r ih =>
  have H:=uF (D v (List.mem_cons_self ..));have J:=ih (fun x I=>D x (List.mem_cons_of_mem _ I))
  cases r with
  | nil=>simpa[cQ] using H
  | cons u r =>
   rw[List.map_cons,dC 32 _ (by simp)];simp only[List.mem_append,List.mem_cons,not_or];exact ⟨H,by decide,J⟩
theorem mC (cs:List Cl) (I:cs≠[]):∀ (h:List (List Vl)) (i:Nat) (acc:List (List Vl)),(∀ r∈h,ft cs r=true)→(acc++h).length≤60→fd cs (h.map bM++[[]]) i acc= .ok ⟨cs,acc++h⟩
 | [],i,acc,_,_=>by simp[fd]
 | r::h,i,acc,H,M=>by
  have J:=H r (List.mem_cons_self ..);have D:r≠[]:=by
   rintro rfl;have:=(nE.1 J).1;unfold mV at this;simp at this;exact I (List.eq_nil_of_length_eq_zero this.symm)
  rw[List.map_cons,List.cons_append];unfold fd;rw[if_neg (by simp),xB J D];simp only;simp only[Fo,Fv] at M;rw[if_neg (by omega),mC cs I h (i+1) (acc++[r]) (fun x N=>H x (List.mem_cons_of_mem _ N)) (by simp;omega)];simp
def fv (c:Cl):Bs:=c.name++58::eP c.kind.toNat
def eQ (l:List Cl):Bs:=cQ 32 (l.map fv)
theorem nF (l:List Cl):∀ k,k≤l.length→nu l k=cQ 32 ((l.take k).map fv)
 | 0,_=>by simp[nu,cQ]
 | k+1,h=>by
  have ih:=nF l k (by omega);unfold nu;rw[ih,Fp (by omega),List.take_succ_eq_append_getElem (by omega),List.map_append]
  cases k with
  | zero=>simp[cQ,fv]
  | succ k =>
   rw[if_neg (by omega),List.map_singleton,kj]
   ·simp[fv]
   cases l with
   | nil=>simp at h
   | cons a l=>simp
theorem xC (l:List Cl):nu l l.length=eQ l:=by
 rw[nF l l.length (Fm _),List.take_length];rfl
theorem qh {l:List Cl} (h:bV l=true):∀ c∈l,fm c.name=true∧(c.kind=1∨c.kind=2):=fun c H=>by
 obtain ⟨i,D,rfl⟩:=List.getElem_of_mem H;unfold bV at h;simp only[Bool.and_eq_true,List.all_eq_true] at h;have:=h.2 i (List.mem_range.2 D);unfold fY at this;rw[Fp D] at this;simp only[Bool.and_eq_true,Bool.or_eq_true,decide_eq_true_eq] at this;exact this.1
theorem sy {l:List Cl} (h:bV l=true):l≠[]∧l.length≤6:=by
 unfold bV at h;simp only[Bool.and_eq_true,decide_eq_true_eq] at h;refine ⟨?_,h.1.2⟩;rintro rfl;simp at h
theorem qi {s:Bs} (h:fm s=true):∀ b∈s,dl.contains b=true:=by
 unfold fm at h;simp only[Bool.and_eq_true,List.all_eq_true] at h;exact h.2
theorem zM {b:UInt8} (h:dl.contains b=true):b≠10∧b≠32∧b≠58:=by
 refine ⟨?_,?_,?_⟩<;>(rintro rfl;exact absurd h (by decide))
theorem uG (j:Nat):∀ b∈eP j,b≠10∧b≠32:=by
 unfold eP;split<;>decide
theorem kO {c:Cl} (h:fm c.name=true):(10:UInt8)∉fv c∧(32:UInt8)∉fv c:=by
 have I:=qi h;have H:=uG c.kind.toNat;unfold fv;simp only[List.mem_append,List.mem_cons,not_or];refine ⟨⟨fun D=>(zM (I _ D)).1 rfl,by decide,fun D=>(H _ D).1 rfl⟩,fun D=>(zM (I _ D)).2.1 rfl,by decide,fun D=>(H _ D).2 rfl⟩
theorem xD {c:Cl} (h:fm c.name=true) (D:c.kind=1∨c.kind=2):zF (fv c)=c:=by
 unfold zF fv;rw[sq 58 _ _ (fun H=>(zM (qi h _ H)).2.2 rfl)];obtain ⟨n,k⟩:=c;rcases D with D|D
 ·simp only at D;subst D;rfl
 simp only at D;subst D;rfl
theorem uH {l:List Cl} (h:bV l=true):bE (eQ l)=l:=by
 have H:=qh h;unfold bE eQ;rw[ko 32 (by simpa using (sy h).1) (fun u I=>by
  obtain ⟨c,D,rfl⟩:=List.mem_map.1 I;exact (kO (H c D).1).2),List.map_map]
 conv=>rhs;rw[←List.map_id l]
 exact List.map_congr_left fun c D=>xD (H c D).1 (H c D).2
theorem pS {l:List Cl} (h:bV l=true):(10:UInt8)∉eQ l:=by
 have D:=qh h;unfold eQ;clear h
 induction l with
 | nil=>simp[cQ]
 | cons v r ih =>
  have H:=(kO (D v (List.mem_cons_self ..)).1).1;have J:=ih (fun x I=>D x (List.mem_cons_of_mem _ I))
  cases r with
  | nil=>simpa[cQ] using H
  | cons u r =>
   rw[List.map_cons,dC 32 _ (by simp)];simp only[List.mem_append,List.mem_cons,not_or];exact ⟨H,by decide,J⟩
theorem nG (D:List (List Vl)):∀ k,k≤D.length→qc D k=(D.take k).flatMap fun r=>bM r++[10]
 | 0,_=>by simp[qc]
 | k+1,h=>by
  have ih:=nG D k (by omega);unfold qc;rw[ih,Fp (by omega),List.take_succ_eq_append_getElem (by omega),List.flatMap_append];simp[zL]
theorem nH:∀ h:List Bs,cQ 10 (h++[[]])=h.flatMap fun l=>l++[10]
 | []=>rfl
 | l::h=>by
  rw[List.cons_append,dC 10 l (by simp),nH h];simp
theorem uI (t:Tb):il t=cQ 10 (eQ t.cols::t.rows.map bM++[[]]):=by
 unfold il;rw[List.cons_append,dC 10 _ (by simp),nH,xC,nG _ _ (Fm _),List.take_length,List.flatMap_map];simp
theorem aF {t:Tb}:ak t=true↔bV t.cols=true∧t.rows.length≤60∧∀ r∈t.rows,ft t.cols r=true:=by
 unfold ak;simp only[Bool.and_eq_true,decide_eq_true_eq,List.all_eq_true];constructor
 ·rintro ⟨⟨a,b⟩,c⟩;exact ⟨a,b,c⟩
 rintro ⟨a,b,c⟩;exact ⟨⟨a,b⟩,c⟩
theorem sz {t:Tb} (h:ak t=true):dy (il t)= .ok t:=by
 obtain ⟨H,V,J⟩:=aF.1 h;have M:ax 10 (il t)=eQ t.cols::t.rows.map bM++[[]]:=by
  rw[uI];refine ko 10 (by simp) fun u D=>?_
  rw[List.cons_append,List.mem_cons,List.mem_append] at D;rcases D with rfl|D|D
  ·exact pS H
  ·obtain ⟨r,I,rfl⟩:=List.mem_map.1 D
   exact re (J r I)
  rw[List.mem_singleton] at D;subst D;simp
 have N:(ax 10 (il t)).headD []=eQ t.cols:=by rw[M];rfl
 have O:(ax 10 (il t)).tail=t.rows.map bM++[[]]:=by rw[M];rfl
 have U:bE ((ax 10 (il t)).headD [])=t.cols:=by rw[N,uH H]
 unfold dy;rw[O];simp only[U];rw[if_pos H,mC t.cols (sy H).1 t.rows 0 [] J (by simpa using V)];simp
end
section
open Go.RowKit
def strs (l:List Bs):List Value:=l.map fun s=>FC (bs s)
theorem jd (l:List Bs):(strs l).length=l.length:=by simp[strs]
theorem cw (l:List Bs) (k:Nat) (h:k<l.length):(strs l)[k]? = some (FC (bs l[k])):=by simp[strs,h]
theorem fB (l:List Bs) (s:Bs):strs (l++[s])=strs l++[FC (bs s)]:=by simp[strs]
theorem C5:(Tryz.prog.info? 9).map (fun i=>(i.zero,i.size,i.bytes))=some (some (FC ⟨#[]⟩),1,16):=by kernel_rfl
theorem jG {P:Program} {T:TypeId} (O:P.underlying T=some .string) (s:Bs) (D h:Nat) (U:D≤h) (I:h≤s.length) (W:World) :
  (Instr.slice T (FC (bs s)) (some (FH FI (D:Int))) (some (FH FI (h:Int))) none).run P W= .ok (FC (bs ((s.take h).drop D))) W:=by
 have M:(D:Int)≤(h:Int):=by omega
 have H:(h:Int)≤(s.length:Int):=by omega
 have e:(bs s).extract D h=bs ((s.take h).drop D):=ab s D h;rw[←e];have N:h≤(bs s).size:=by rw[ag];exact I
 have J:(h:Int)≤((bs s).size:Int):=by rw[ag];exact H
 go_simp
end
section
open Go.RowKit
attribute [local go_sem] ag ab ae af
theorem rl {l:Bs} {v:Int} (h:Lib.atoiAll l= .ok v):dX v:=by
 unfold Lib.atoiAll at h;split at h
 ·cases h
 simp only at h;split at h
 ·cases h
 ·cases h
 rename_i u _;split at h
 ·cases h
 split at h
 ·cases h
 injection h with h;subst h;unfold dX;split<;>omega
theorem nQ (s:Bs) (U:s.length≤1000000000) (w:World) (M:∃ t p,w.cell? ⟨6,0,none⟩=some (.iface t p)) (I:∃ t p,w.cell? ⟨7,0,none⟩=some (.iface t p)) :
  (∃ v,Lib.atoiAll s= .ok v∧dX v∧Calls Tryz.prog 83 #[FC (bs s)] w fun e w'=>e=FF (.tuple #[FH FI v,.nilIface])∧aa [] w w') ∨
  ((∀ v,Lib.atoiAll s≠ .ok v)∧Calls Tryz.prog 83 #[FC (bs s)] w fun e w'=>(∃ n t p,e=FF (.tuple #[FH FI n,.iface t p]))∧aa [] w w'):=by
 rcases h:Lib.atoiAll s with v|_|_
 ·
  left
  refine ⟨v,rfl,rl h,(Tryz.strconv_Atoi_ok (bs s) (by rw[ag];omega) v h w).mono ?_⟩;rintro e w' ⟨rfl,O⟩;refine ⟨rfl,?_⟩;rcases O with rfl|⟨t,rfl⟩
  ·exact Fz _ _
  exact aa.of_below (Lib.bytesWorld_below _ _ _)
 ·
  right
  refine ⟨fun v J=>(by cases J),?_⟩;obtain ⟨t,p,H⟩:=M;refine (Tryz.strconv_Atoi_syntax (bs s) (by rw[ag];omega) h (.iface t p) w H (.inr ⟨_,_,rfl⟩)).mono ?_;rintro e w' ⟨N,rfl,_,_,D⟩;exact ⟨⟨_,_,_,rfl⟩,aa.of_below D⟩
 
 right
 refine ⟨fun v J=>(by cases J),?_⟩;obtain ⟨t,p,H⟩:=I;refine (Tryz.strconv_Atoi_range (bs s) (by rw[ag];omega) h (.iface t p) w H (.inr ⟨_,_,rfl⟩)).mono ?_;rintro e w' ⟨N,rfl,_,_,D⟩;exact ⟨⟨_,_,_,rfl⟩,aa.of_below D⟩
def C9 (k:Nat) (cap:Array Value) (p:Bs→Bool) (l:List Bs) (w:World):Prop :=
 ∀ c∈l,∀ W,aa [] w W→Calls Tryz.prog k (#[FC (bs c)]++cap) W fun e W'=>e=FF (.bool (p c))∧aa [] W W'
theorem oa (k:Nat) (cap:Array Value) (he:∀ args w,(callFunc k args).run Tryz.prog w= .ok (.enter k args) w) (p:Bs→Bool) (l:List Bs) (A:Option Addr) (c:Nat) (w:World) (Z:Rd w [] 1 A l.length (strs l)) (U:l.length≤4294967296) (hf:C9 k cap p l w) :
  Calls Tryz.prog 85 #[FD A l.length c,.func (.func k) #[] cap] w fun e w'=>e=FF (FH FI (bh p l))∧aa [] w w':=by
 have HR:=Fk Z;have HF:=Fk hf;clear Z hf;go_enter Tryz.func85,Tryz.ntmps85
 go_wp2;go_loopw [8] (fun i wr=>∃ n:Nat,n≤l.length∧i=FH FI n∧Hid (∀ j (H:j<n) (U:j<l.length),p l[j]=false)∧aa [] w wr) (fun i _=>l.length-(intOf i).toNat)
 case atStart=>exact ⟨0,Fu _,rfl,fun j H=>absurd H (by omega),Fz _ _⟩
 obtain ⟨n,hn,rfl,J,O⟩:=hrel;by_cases I:n<l.length
 ·obtain ⟨b,o,rfl,_,hb,hc⟩:=(HR.out.keep O).open' (by omega) (by omega)
  have d1:=hc n _ (cw l n I);have HH:=HF.out l[n] (Fs I) wr O;generalize hx:l[n]=x at *;have V:=Fk hx;have HH':=Fk HH;clear HH hc hx
  cases N:p x with
  | true =>
   have D:bh p l=(n:Int):=dV I (fun j H=>J j H (by omega)) ((congrArg p V.out).trans N);rw[N] at HH';have HP:=Fk D;clear D N;go_wp2_with fail
   refine HH'.out.mono ?_;rintro e W2 ⟨rfl,M⟩;go_wp2;go_ret;exact ⟨by rw[HP.out];rfl,O.trans M⟩
  | false =>
   have hno':Hid (∀ j (H:j<n+1) (U:j<l.length),p l[j]=false):=fun j H U=>by
    by_cases h:j<n
    ·exact J j h U
    obtain rfl:j=n:=by omega
    exact (congrArg p V.out).trans N
   rw[N] at HH';clear N;go_wp2_with fail
   refine HH'.out.mono ?_;rintro e W2 ⟨rfl,M⟩;go_wp2;go_roundw
   case rel=>exact ⟨n+1,by omega,by go_num,hno',O.trans M⟩
   case measure=>simp[intOf];omega
 have D:Hid (bh p l= -1):=dA fun j H=>J j (by omega) H
 go_wp2;go_ret;exact ⟨by rw[D.out];rfl,O⟩
theorem gd (k:Nat) (cap:Array Value) (H:∀ args w,(callFunc k args).run Tryz.prog w= .ok (.enter k args) w) (p:Bs→Bool) (l:List Bs) (A:Option Addr) (c:Nat) (w:World) (D:Rd w [] 1 A l.length (strs l)) (J:l.length≤4294967296) (I:C9 k cap p l w) :
  Calls Tryz.prog 53 #[FD A l.length c,.func (.func k) #[] cap] w fun e w'=>e=FF (.bool (l.any p))∧aa [] w w':=by
 have M:=Fk (oa k cap H p l A c w D J I);clear D I H;rw[←eD];go_enter Tryz.func53,Tryz.ntmps53
 go_wp2_with (go_at_call 85;refine M.out.mono ?_;rintro e N ⟨rfl,h⟩)
 go_ret;exact ⟨rfl,h⟩
theorem xN (v:Bs) (l:List Bs) (A:Option Addr) (c:Nat) (w:World) (N:Rd w [] 1 A l.length (strs l)) (M:l.length≤4294967296) :
  Calls Tryz.prog 48 #[FD A l.length c,FC (bs v)] w fun e w'=>e=FF (FH FI (bh (fun t=>v==t) l))∧w=w':=by
 have V:=Fk N;clear N;go_enter Tryz.func48,Tryz.ntmps48
 go_wp2;go_loop [8] (fun i=>∃ n:Nat,n≤l.length∧i=FH FI n∧Hid (∀ j (H:j<n) (M:j<l.length),(v==l[j])=false)) (fun i=>l.length-(intOf i).toNat)
 case atStart=>exact ⟨0,Fu _,rfl,fun j H=>absurd H (by omega)⟩
 obtain ⟨n,hn,rfl,I⟩:=hrel;by_cases J:n<l.length
 ·obtain ⟨b,o,rfl,_,hb,O⟩:=V.out.open' (by omega) (by omega)
  have d1:=O n _ (cw l n J);clear O
  cases U:(v==l[n]) with
  | true =>
   have D:bh (fun t=>v==t) l=(n:Int):=dV J (fun j H=>I j H (by omega)) U;have Z:=Fk D;clear D;go_wp2;go_ret;exact ⟨by rw[Z.out];rfl,rfl⟩
  | false =>
   have hno':Hid (∀ j (H:j<n+1) (M:j<l.length),(v==l[j])=false):=fun j H M=>by
    by_cases h:j<n
    ·exact I j h M
    obtain rfl:j=n:=by omega
    exact U
   go_wp2;go_round
   case rel=>exact ⟨n+1,by omega,by go_num,hno'⟩
   case measure=>simp[intOf];omega
 have D:Hid (bh (fun t=>v==t) l= -1):=dA fun j H=>I j (by omega) H
 go_wp2;go_ret;exact ⟨by rw[D.out];rfl,rfl⟩
theorem rC (v:Bs) (l:List Bs) (A:Option Addr) (c:Nat) (w:World) (h:Rd w [] 1 A l.length (strs l)) (D:l.length≤4294967296) :
  Calls Tryz.prog 34 #[FD A l.length c,FC (bs v)] w fun e w'=>e=FF (.bool (l.any fun t=>v==t))∧w=w':=by
 have H:=Fk (xN v l A c w h D);clear h;rw[←eD];go_enter Tryz.func34,Tryz.ntmps34
 go_wp2_with (go_at_call 48;refine H.out.mono ?_;rintro e I ⟨rfl,rfl⟩)
 go_ret;exact ⟨rfl,rfl⟩
theorem BY (l:List Int) (k:Nat) (h:k<l.length):(l.map (Value.int .i64))[k]? = some (FH FI l[k]):=by simp[h]
theorem xO (v:Int) (l:List Int) (A:Option Addr) (c:Nat) (w:World) (N:Rd w [] 1 A l.length (l.map (Value.int .i64))) (M:l.length≤4294967296) :
  Calls Tryz.prog 86 #[FD A l.length c,FH FI v] w fun e w'=>e=FF (FH FI (bh (fun t=>v==t) l))∧w=w':=by
 have V:=Fk N;clear N;go_enter Tryz.func86,Tryz.ntmps86
 go_wp2;go_loop [8] (fun i=>∃ n:Nat,n≤l.length∧i=FH FI n∧Hid (∀ j (H:j<n) (M:j<l.length),(v==l[j])=false)) (fun i=>l.length-(intOf i).toNat)
 case atStart=>exact ⟨0,Fu _,rfl,fun j H=>absurd H (by omega)⟩
 obtain ⟨n,hn,rfl,I⟩:=hrel;by_cases J:n<l.length
 ·obtain ⟨b,o,rfl,_,hb,O⟩:=V.out.open' (by omega) (by omega)
  have d1:=O n _ (BY l n J);clear O
  cases U:(v==l[n]) with
  | true =>
   have D:bh (fun t=>v==t) l=(n:Int):=dV J (fun j H=>I j H (by omega)) U;have Z:=Fk D;clear D;go_wp2;go_ret;exact ⟨by rw[Z.out];rfl,rfl⟩
  | false =>
   have hno':Hid (∀ j (H:j<n+1) (M:j<l.length),(v==l[j])=false):=fun j H M=>by
    by_cases h:j<n
    ·exact I j h M
    obtain rfl:j=n:=by omega
    exact U
   go_wp2;go_round
   case rel=>exact ⟨n+1,by omega,by go_num,hno'⟩
   case measure=>simp[intOf];omega
 have D:Hid (bh (fun t=>v==t) l= -1):=dA fun j H=>I j (by omega) H
 go_wp2;go_ret;exact ⟨by rw[D.out];rfl,rfl⟩
theorem kZ (v:Int) (l:List Int) (A:Option Addr) (c:Nat) (w:World) (h:Rd w [] 1 A l.length (l.map (Value.int .i64))) (D:l.length≤4294967296) :
  Calls Tryz.prog 55 #[FD A l.length c,FH FI v] w fun e w'=>e=FF (.bool (l.any fun t=>v==t))∧w=w':=by
 have H:=Fk (xO v l A c w h D);clear h;rw[←eD];go_enter Tryz.func55,Tryz.ntmps55
 go_wp2_with (go_at_call 86;refine H.out.mono ?_;rintro e I ⟨rfl,rfl⟩)
 go_ret;exact ⟨rfl,rfl⟩
end
section
open Go.RowKit Go.Maps
def dc (P:Program) (S E:TypeId) (w:World) (b n:Nat) (l:List Bs):Prop :=
 ∃ D:DataW Unit,w.ownsMap P S (plainElem P E) b n D∧∀ k:Bs,Maps.has D (.string k)=decide (k∈l)∧D.atKey (.string k) (.lit (.bool false))= .lit (.bool (decide (k∈l)))
section
variable {P:Program} {T S E:TypeId} {w w':World} {b n:Nat} {l:List Bs}
theorem dc.lt (h:dc P S E w b n l):b<w.heap.size:=by obtain ⟨D,h,_⟩:=h;exact h.lt
theorem dc.made (w:World):dc P S E (w.alloc (.map #[] 0)) w.heap.size 0 [] :=
 ⟨_,World.ownsMap_made w _ _ _,fun _=>⟨rfl,rfl⟩⟩
theorem dc.of_block (h:dc P S E w b n l) (I:w'.heap[b]? = w.heap[b]?):dc P S E w' b n l:=by
 obtain ⟨D,⟨N,H,O,M⟩,J⟩:=h;exact ⟨D,⟨N,H,I.trans O,M⟩,J⟩
theorem dc.keep {L:List Nat} (h:dc P S E w b n l) (H:aa L w w') (D:b∉L):dc P S E w' b n l:=h.of_block (H.block b h.lt D)
theorem dc.mono (h:dc P S E w b n l) {n':Nat} (J:n≤n'):dc P S E w b n' l:=by
 obtain ⟨D,H,I⟩:=h;exact ⟨D,H.mono J,I⟩
theorem kE {v:Value} {d:DataW Unit} {ps:List MemPlace} (D:P.underlying E=some .bool) (h:plainElem P E v=some (d,ps)):∃ x,v= .bool x∧d= .lit (.bool x):=by
 simp only[plainElem,D] at h;cases v<;>simp at h
 exact ⟨_,rfl,h.1.symm⟩
theorem dc.look (h:dc P S E w b n l) (hT:P.underlying T=some (.map S E)) (N:P.underlying S=some .string) (M:P.underlying E=some .bool) (Z:(zeroValue E).run P w= .ok (.bool false) w) (k:Bs) (V:k.length≤maxLen) :
  (Instr.lookup T (.map (some b)) (.string (bs k)) false).run P w= .ok (.bool (decide (k∈l))) w:=by
 obtain ⟨D,h1,O⟩:=h;have J:keyOf P S (.string (bs k))=some (.string k):=WideMaps.keyOf_string_mk N (by rw[ag];exact V);obtain ⟨v,ps,I,U⟩:=h1.lookup (string_keyed N) hT Z (plainElem_bool M false) J;obtain ⟨x,rfl,H⟩:=kE M U;rw[(O k).2] at H;injection H with H;injection H with H;rw[I,H]
theorem dc.store (h:dc P S E w b n l) (hT:P.underlying T=some (.map S E)) (N:P.underlying S=some .string) (Z:P.underlying E=some .bool) (k:Bs) (hk:k.length≤maxLen) (hn:n<maxLen) :
  ∃ w',(Instr.mapUpdate T (.map (some b)) (.string (bs k)) (.bool true)).run P w= .ok () w'∧dc P S E w' b (n+1) (k::l)∧w.grownBy w' (some b):=by
 obtain ⟨D,U,O⟩:=h;have I:keyOf P S (.string (bs k))=some (.string k):=WideMaps.keyOf_string_mk N (by rw[ag];exact hk);obtain ⟨w',J,h3,h4⟩:=U.update (string_keyed N) hT hn I (plainElem_bool Z true);have V:=U.isMap;refine ⟨w',J,⟨_,h3,fun x=>?_⟩,h4⟩;by_cases M:x=k
 ·subst M
  exact ⟨by rw[has_put_same V (by trivial)];simp,by rw[atKey_put_same V (by trivial)];simp⟩
 have H:(Lit.string x)≠Lit.string k:=fun e=>M (by injection e)
 have hd:decide (x∈k::l)=decide (x∈l):=by simp[M]
 rw[hd];exact ⟨by rw[has_put_other H];exact (O x).1,by rw[atKey_put_other H];exact (O x).2⟩
end
end
section
open Go.RowKit
theorem tv (b o N:Nat) (h:1≤N) (I:N≤1000001):∃ A,(∀ W,(Instr.slice 44 (FD (some ⟨b,o,none⟩) N N) (some (FH FI 1)) none none).run Tryz.prog W= .ok (FD A (N-1) (N-1)) W)∧(1<N→A=some ⟨b,o+1,none⟩):=by
 have J:=Tryz.underlying44;have D:(1:Int)≤(N:Int):=by omega
 by_cases H:N=1
 ·subst H
  refine ⟨some ⟨b,o,none⟩,fun W=>?_,fun h=>absurd h (by omega)⟩;go_simp
 refine ⟨some ⟨b,o+1,none⟩,fun W=>?_,fun _=>rfl⟩;go_simp
def qL (ops:Array Oper):Bool:=(List.range ops.size).all fun i=>((ops[i]?).map fun o=>o.after.all fun e=>decide (e.on<i)).getD false
theorem oP {ops:Array Oper} (h:qL ops=true) {i:Nat} {o:Oper} (H:ops[i]? = some o) {e:Edge} (J:e∈o.after):e.on<i:=by
 have I:i<ops.size:=(Array.getElem?_eq_some_iff.1 H).1;have D:=List.all_eq_true.1 h i (List.mem_range.2 I);rw[H] at D;simp only[Option.map_some,Option.getD_some,Array.all_eq_true_iff_forall_mem] at D;simpa using D e J
def ia (L:Nat→Bool) (n:Nat):Nat:=(List.range n).countP fun i=> !L i
theorem oQ {L:Nat→Bool} {n:Nat} (h:ia L n=0):∀ i,i<n→L i=true:=by
 intro i D;have H:=List.countP_eq_zero.1 h i (List.mem_range.2 D);simpa using H
def bd (L:Nat→Bool) (i:Nat):Nat→Bool:=fun j=>if j=i then true else L j
theorem mc {L:Nat→Bool} {i:Nat} (H:L i=false):∀ {n:Nat},i<n→ia (bd L i) n+1=ia L n
 | 0,h=>absurd h (by omega)
 | n+1,h=>by
  have e:∀ M:Nat→Bool,ia M (n+1)=ia M n+if M n then 0 else 1:=fun M=>by
   unfold ia;rw[List.range_succ,List.countP_append,List.countP_singleton];cases O:M n<;>simp
  rw[e,e];by_cases D:i=n
  ·subst D
   have I:ia (bd L i) i=ia L i:=by
    unfold ia;refine List.countP_congr fun x J=>?_
    have:=List.mem_range.1 J;unfold bd;rw[if_neg (by omega)]
   rw[I,H];simp[bd]
  have ih:=mc H (n:=n) (by omega);have N:bd L i n=L n:=by unfold bd;rw[if_neg (fun h=>D h.symm)]
  rw[N];omega
def iE (ops:Array Oper) (listed:Array Bool) (L:Nat→Bool):Prop:=listed.size=ops.size∧∀ i,i<ops.size→listed[i]? = some (L i)
theorem iE.set {ops:Array Oper} {listed:Array Bool} {L:Nat→Bool} (h:iE ops listed L) {i:Nat} (I:i<ops.size):iE ops (listed.setIfInBounds i true) (bd L i):=by
 refine ⟨by rw[Array.size_setIfInBounds];exact h.1,fun j H=>?_⟩;rw[Array.getElem?_setIfInBounds];unfold bd;by_cases D:i=j
 ·subst D
  rw[if_pos rfl,if_pos (by rw[h.1];exact H),if_pos rfl]
 rw[if_neg D,if_neg (fun e=>D e.symm)];exact h.2 j H
theorem iE.get {ops:Array Oper} {listed:Array Bool} {L:Nat→Bool} (h:iE ops listed L) {i:Nat} (D:i<ops.size) (d:Bool):listed.getD i d=L i:=by
 have:=h.2 i D;rw[Array.getD_eq_getD_getElem?,this];rfl
theorem md {ops:Array Oper} {listed:Array Bool} {L:Nat→Bool} (hd:qL ops=true) (h:iE ops listed L) (i:Nat) :
  i∈Region.ready .any ops listed↔i<ops.size∧L i=false∧∀ o,ops[i]? = some o→∀ e∈o.after,Region.binds .any e=true→L e.on=true:=by
 unfold Region.ready;rw[List.mem_filter,List.mem_range];constructor
 ·rintro ⟨H,J⟩
  rw[Bool.and_eq_true,h.get H] at J;refine ⟨H,by simpa using J.1,fun o D e M N=>?_⟩;have I:=J.2;rw[D] at I;simp only[Option.map_some,Option.getD_some,Array.all_eq_true_iff_forall_mem] at I;have O:=I e M;rw[N,Bool.not_true,Bool.false_or,h.get (by have:=oP hd D M;omega)] at O;exact O
 rintro ⟨H,J,I⟩;refine ⟨H,?_⟩;rw[Bool.and_eq_true,h.get H,J];refine ⟨rfl,?_⟩;obtain ⟨o,D⟩:∃ o,ops[i]? = some o:=⟨_,Array.getElem?_eq_getElem H⟩
 rw[D];simp only[Option.map_some,Option.getD_some,Array.all_eq_true_iff_forall_mem];intro e M
 cases N:Region.binds .any e with
 | false=>rfl
 | true =>
  rw[Bool.not_true,Bool.false_or,h.get (by have:=oP hd D M;omega)];exact I o D e M N
theorem vE {ops:Array Oper} {L:Nat→Bool} (hd:qL ops=true):∀ (i:Nat),i<ops.size→L i=false→∃ j,j<ops.size∧L j=false∧∀ o,ops[j]? = some o→∀ e∈o.after,Region.binds .any e=true→L e.on=true:=by
 intro i
 induction i using Nat.strongRecOn with
 | ind i ih =>
  intro J U;by_cases I:∃ o,ops[i]? = some o∧∃ e∈o.after,Region.binds .any e=true∧L e.on=false
  ·obtain ⟨o,H,e,D,_,O⟩:=I
   have h:=oP hd H D;exact ih e.on h (by omega) O
  refine ⟨i,J,U,fun o H e D M=>?_⟩
  cases N:L e.on with
  | true=>rfl
  | false=>exact absurd ⟨o,H,e,D,M,N⟩ I
section
variable {P:Program} {ops:Array Oper} {Q:Exit→Act→World→Prop}
theorem qM (hd:qL ops=true) (I:(Nat→Bool)→Act→World→Prop)
  (Z:∀ i,i<ops.size→∀ L a w,L i=false→(∀ o,ops[i]? = some o→∀ e∈o.after,Region.binds .any e=true→L e.on=true)→I L a w→wpOp P ops Q i (I (bd L i)) a w)
  (O:∀ L a w,(∀ i,i<ops.size→L i=true)→I L a w→Q .normal a w) :
  ∀ (fuel:Nat) (listed:Array Bool) (L:Nat→Bool) (a:Act) (w:World),iE ops listed L→ia L ops.size≤fuel→I L a w→wpAny P .any ops Q fuel listed a w
 | 0,listed,L,a,w,J,V,M=>by
  have D:=oQ (Nat.le_zero.1 V);refine ⟨List.eq_nil_iff_forall_not_mem.2 fun i H=>?_,O L a w D M⟩;have:=(md hd J i).1 H;rw[D i this.1] at this;exact absurd this.2.1 (by decide)
 | fuel+1,listed,L,a,w,J,V,M=>by
  refine ⟨fun hr=>O L a w (fun i H=>?_) M,fun i H=>?_⟩
  ·cases hl:L i with
   | true=>rfl
   | false =>
    obtain ⟨j,hj⟩:=vE hd i H hl;have:=(md hd J j).2 hj;rw[hr] at this;cases this
  obtain ⟨N,U,h3⟩:=(md hd J i).1 H;have hc:=mc U N;exact wpOp_mono (fun a' w' h=>qM hd I Z O fuel _ (bd L i) a' w' (J.set N) (by omega) h) (Z i N L a w U h3 M)
theorem pY {id:Nat} {a:Act} {w:World} (J:P.follows .mixedOrders=true) (hd:qL ops=true) (I:(Nat→Bool)→Act→World→Prop)
  (h:I (fun _=>false) a w.drew)
  (H:∀ i,i<ops.size→∀ L a w,L i=false→(∀ o,ops[i]? = some o→∀ e∈o.after,Region.binds .any e=true→L e.on=true)→I L a w→wpOp P ops Q i (I (bd L i)) a w)
  (M:∀ L a w,(∀ i,i<ops.size→L i=true)→I L a w→Q .normal a w):(Code.region id ops true).wp P Q a w:=by
 refine wp_region_any J (qM hd I H M ops.size _ (fun _=>false) a _ ⟨by simp,fun i D=>by simp[D]⟩ ?_ h);unfold ia;refine Ft List.countP_le_length (by simp)
theorem AP {i:Nat} {o:Oper} {a:Act} {w w':World} {u:Value} {K:Act→World→Prop} (h:ops[i]? = some o) (H:o.guard=none) (D:(execOp a.eval o).run P w= .ok (.value u) w') (I:K (a.put o.dst u) w'):wpOp P ops Q i K a w:=by
 unfold wpOp;simp only[h];rw[if_pos (by unfold Region.wanted;rw[H])];left
 unfold Oper.wp;rw[D];exact I
theorem dN {i:Nat} {o:Oper} {a:Act} {w w':World} {K:Act→World→Prop} (h:ops[i]? = some o) (H:o.guard=none) (D:(execOp a.eval o).run P w= .ok .skip w') (I:K (a.put o.dst undef) w'):wpOp P ops Q i K a w:=by
 unfold wpOp;simp only[h];rw[if_pos (by unfold Region.wanted;rw[H])];left
 unfold Oper.wp;rw[D];exact I
theorem Ci {i:Nat} {o:Oper} {a:Act} {w:World} {K:Act→World→Prop} (D:ops[i]? = some o) (H:o.guard=none) (h:o.wp P a w K Q):wpOp P ops Q i K a w:=by
 unfold wpOp;simp only[D];rw[if_pos (by unfold Region.wanted;rw[H])];exact .inl h
theorem yM {i:Nat} {o:Oper} {a:Act} {w:World} {f:FuncId} {args:Array Value} {K:Act→World→Prop} (h:ops[i]? = some o) (I:o.guard=none) (H:(execOp a.eval o).run P w= .ok (.enter f args) w) (J:Calls P f args w fun e w'=>∃ u,e=FF u∧K (a.put o.dst u) w'):wpOp P ops Q i K a w:=by
 unfold wpOp;simp only[h];rw[if_pos (by unfold Region.wanted;rw[I])];left
 unfold Oper.wp;rw[H];exact J.mono fun e w' ⟨u,M,D⟩=>by subst M;exact D
end
structure ib (ops:Array Oper) (v:Nat→Value) (L:Nat→Bool) (a0 a:Act):Prop where
 d:a.defers=a0.defers
 n:a.tmps.size=a0.tmps.size
 y:∀ i o k,ops[i]? = some o→o.dst=some k→L i=true→a.tmps.getD k undef=v i
 z:∀ k,(∀ i o,ops[i]? = some o→o.dst=some k→L i=false)→a.tmps.getD k undef=a0.tmps.getD k undef
def yN (ops:Array Oper) (n:Nat):Bool:=(List.range ops.size).all fun i=>match (ops[i]?).bind (·.dst) with
 | none=>true
 | some k=>decide (k<n)&&(List.range ops.size).all fun j=>decide (j=i)||decide ((ops[j]?).bind (·.dst)≠some k)
theorem Cj {ops:Array Oper} {n:Nat} (h:yN ops n=true) {i:Nat} {o:Oper} {k:Nat} (I:ops[i]? = some o) (O:o.dst=some k):k<n∧∀ j H,ops[j]? = some H→H.dst=some k→j=i:=by
 have N:i<ops.size:=(Array.getElem?_eq_some_iff.1 I).1;have D:=List.all_eq_true.1 h i (List.mem_range.2 N);simp only[I,Option.bind_some,O] at D;rw[Bool.and_eq_true] at D;refine ⟨of_decide_eq_true D.1,fun j H M hk'=>?_⟩;have hj':j<ops.size:=(Array.getElem?_eq_some_iff.1 M).1;have J:=List.all_eq_true.1 D.2 j (List.mem_range.2 hj');simp only[M,Option.bind_some,hk'] at J;simpa using J
theorem tH (t:Array Value) (d k:Nat) (u x:Value) (hd:d<t.size):(t.setIfInBounds d u).getD k x=if k=d then u else t.getD k x:=by
 rw[Array.getD_eq_getD_getElem?,Array.getD_eq_getD_getElem?,Array.getElem?_setIfInBounds];by_cases h:d=k
 ·subst h
  rw[if_pos rfl,if_pos hd,if_pos rfl];rfl
 rw[if_neg h,if_neg (fun e=>h e.symm)]
theorem ib.start (ops:Array Oper) (v:Nat→Value) (a:Act):ib ops v (fun _=>false) a a:=⟨rfl,rfl,(fun _ _ _ _ _ h=>by cases h),fun _ _=>rfl⟩
theorem ib.put {ops:Array Oper} {v:Nat→Value} {L:Nat→Bool} {a0 a:Act} {i:Nat} {o:Oper} (h:ib ops v L a0 a) (hb:yN ops a0.tmps.size=true) (ho:ops[i]? = some o):ib ops v (bd L i) a0 (a.put o.dst (v i)):=by
 cases hd:o.dst with
 | none =>
  refine ⟨h.d,h.n,fun j M k I H O=>?_,fun k Z=>?_⟩
  ·refine h.y j M k I H ?_
   unfold bd at O;split at O
   ·rename_i e
    subst e;rw[ho] at I;cases I
    rw[hd] at H;cases H
   exact O
  refine h.z k fun j M I H=>?_
  have:=Z j M I H;unfold bd at this;split at this
  ·cases this
  exact this
 | some V =>
  obtain ⟨U,N⟩:=Cj hb ho hd;have J:(a.put (some V) (v i)).tmps=a.tmps.setIfInBounds V (v i):=rfl;refine ⟨h.d,by rw[J,Array.size_setIfInBounds];exact h.n,fun j M k I H O=>?_,fun k Z=>?_⟩
  ·rw[J,tH _ _ _ _ _ (by rw[h.n];exact U)]
   by_cases D:k=V
   ·subst D
    rw[if_pos rfl,N j M I H]
   rw[if_neg D];refine h.y j M k I H ?_;unfold bd at O;split at O
   ·rename_i e
    subst e;rw[ho] at I;cases I
    rw[hd] at H;cases H
    exact absurd rfl D
   exact O
  rw[J,tH _ _ _ _ _ (by rw[h.n];exact U)];by_cases D:k=V
  ·have:=Z i o ho (by rw[D];exact hd)
   unfold bd at this;rw[if_pos rfl] at this;cases this
  rw[if_neg D];refine h.z k fun j M I H=>?_
  have:=Z j M I H;unfold bd at this;split at this
  ·cases this
  exact this
theorem ib.old {ops:Array Oper} {v:Nat→Value} {L:Nat→Bool} {H a:Act} (h:ib ops v L H a) (k:Nat) (D:(ops.any fun o=>decide (o.dst=some k))=false):a.tmps.getD k undef=H.tmps.getD k undef :=
 h.z k fun i o I hd=>by
  rw[Array.any_eq_false'] at D;exact absurd (decide_eq_true hd) (D o (Array.mem_of_getElem? I))
theorem ib.congr {ops:Array Oper} {v v':Nat→Value} {L:Nat→Bool} {D a:Act} (h:ib ops v L D a) (e:∀ i,L i=true→v i=v' i):ib ops v' L D a :=
 ⟨h.d,h.n,fun i o k I J H=>(h.y i o k I J H).trans (e i H),h.z⟩
def Ck (ops:Array Oper) (v:Nat→Value) (h:Act) (k:Nat):Value:=match (List.range ops.size).find? fun i=>decide ((ops[i]?).bind (·.dst)=some k) with
 | some i=>v i
 | none=>h.tmps.getD k undef
theorem ib.fin {ops:Array Oper} {v:Nat→Value} {L:Nat→Bool} {D a:Act} (h:ib ops v L D a) (H:∀ i,i<ops.size→L i=true):a=⟨((List.range D.tmps.size).map (Ck ops v D)).toArray,D.defers⟩:=by
 obtain ⟨t,d⟩:=a;have hd:d=D.defers:=h.d;have U:t.size=D.tmps.size:=h.n;subst hd;congr 1
 apply Array.ext
 ·simp[U]
 intro k O V;simp only[List.getElem_toArray,List.getElem_map,List.getElem_range];have e:t[k]=t.getD k undef:=by rw[Array.getD_eq_getD_getElem?,Array.getElem?_eq_getElem O];rfl
 rw[e];unfold Ck
 cases N:(List.range ops.size).find? fun i=>decide ((ops[i]?).bind (·.dst)=some k) with
 | some i =>
  have M:=List.find?_some N;have J:=List.mem_range.1 (List.mem_of_find?_eq_some N);rw[decide_eq_true_iff] at M;obtain ⟨o,I⟩:∃ o,ops[i]? = some o:=⟨_,Array.getElem?_eq_getElem J⟩
  rw[I,Option.bind_some] at M;exact h.y i o k I M (H i J)
 | none =>
  refine h.z k fun i o I hd=>?_
  have J:i<ops.size:=(Array.getElem?_eq_some_iff.1 I).1;have:=List.find?_eq_none.1 N i (List.mem_range.2 J);rw[I,Option.bind_some,hd] at this;simp at this
def D3 (ops:Array Oper) (i j:Nat):Bool:=((ops[i]?).map fun o=>o.after.any fun e=>decide (e.on=j)&&Region.binds .any e).getD false
theorem AQ {ops:Array Oper} {L:Nat→Bool} {i:Nat} (h:∀ o,ops[i]? = some o→∀ e∈o.after,Region.binds .any e=true→L e.on=true) (j:Nat) (D:D3 ops i j=true):L j=true:=by
 unfold D3 at D
 cases H:ops[i]? with
 | none=>rw[H] at D;cases D
 | some o =>
  rw[H] at D;simp only[Option.map_some,Option.getD_some] at D;obtain ⟨e,J,I⟩:=Array.any_eq_true'.1 D;rw[Bool.and_eq_true,decide_eq_true_iff] at I;have:=h o H e J I.2;rwa [I.1] at this
def oR (C:Nat→Prop):Nat→Prop
 | 0=>True
 | n+1=>oR C n∧C n
theorem oR.at {C:Nat→Prop}:∀ {n:Nat},oR C n→∀ i,i<n→C i
 | 0,_,i,D=>absurd D (by omega)
 | n+1,h,i,D=>by
  by_cases e:i=n
  ·subst e;exact h.2
  exact oR.at h.1 i (by omega)
def Dc {G:Type} (P:Program) (ops:Array Oper) (Q:Exit→Act→World→Prop) (v:G→Nat→Value) (D:G→(Nat→Bool)→World→Prop) (h:Act) (i:Nat):Prop :=
 yN ops h.tmps.size=true→∀ g L a w,L i=false→(∀ j,D3 ops i j=true→L j=true)→ib ops (v g) L h a→D g L w→wpOp P ops Q i (fun I w'=>∃ H,ib ops (v H) (bd L i) h I∧D H (bd L i) w') a w
theorem pZ {G:Type} {P:Program} {ops:Array Oper} {Q:Exit→Act→World→Prop} {id:Nat} {a:Act} {w:World} (Z:P.follows .mixedOrders=true) (hd:qL ops=true) (V:yN ops a.tmps.size=true) (v:G→Nat→Value) (I:G→(Nat→Bool)→World→Prop)
  (M:∃ g,I g (fun _=>false) w.drew) (hs:oR (Dc P ops Q v I a) ops.size)
  (hf:∀ g L w',(∀ i,i<ops.size→L i=true)→I g L w'→Q .normal ⟨((List.range a.tmps.size).map (Ck ops (v g) a)).toArray,a.defers⟩ w'):(Code.region id ops true).wp P Q a w:=by
 obtain ⟨O,M⟩:=M;refine pY Z hd (fun L H w'=>∃ g,ib ops (v g) L a H∧I g L w') ⟨O,ib.start ops (v O) a,M⟩ ?_ ?_
 ·rintro i U L H w' hL D ⟨g,J,N⟩
  exact hs.at i U V g L H w' hL (AQ D) J N
 rintro L H w' h ⟨g,J,N⟩;rw[J.fin h];exact hf g L w' h N
theorem am {G:Type} {P:Program} {ops:Array Oper} {Q:Exit→Act→World→Prop} {v:G→Nat→Value} {I:G→(Nat→Bool)→World→Prop} {h a:Act} {w:World} {i:Nat} {g:G} {L:Nat→Bool} {o:Oper} (H:ops[i]? = some o) (M:yN ops h.tmps.size=true) (N:o.guard=none) (J:ib ops (v g) L h a) (U:I g (bd L i) w)
  (V:(execOp a.eval o).run P w= .ok (.value (v g i)) w):wpOp P ops Q i (fun O w'=>∃ D,ib ops (v D) (bd L i) h O∧I D (bd L i) w') a w:=AP H N V ⟨g,J.put M H,U⟩
structure SR where
 A:Option Addr
 n:Nat
 c:Nat
 row:List Vl
def SR.v (x:SR):Value:=FD x.A x.n x.c
def bf (l:List SR) (rest:List Value):Array Value:=(l.map SR.v++rest).toArray
theorem qN (X Y:List SR) (x:SR) (rest:List Value) {i:Nat} (h:i=X.length):(bf (X++x::Y) rest)[i]? = some x.v:=by
 subst h;simp[bf,List.getElem?_append]
theorem rT (X Y:List SR) (x y:SR) (rest:List Value) {i:Nat} (h:i=X.length):(bf (X++x::Y) rest).setIfInBounds i y.v=bf (X++y::Y) rest:=by
 subst h;unfold bf;rw[List.setIfInBounds_toArray];congr 1
 rw[List.map_append,List.map_append,List.append_assoc,List.append_assoc,List.set_append_right _ _ (by simp)];simp
theorem rU {L:Nat→Bool} {k q:Nat} (h:L q=true):bd L k q=true:=by
 unfold bd;split
 ·rfl
 exact h
structure oS (y:World) (G:Nat) (T:TypeId) (cur:Array Value) (i j:Nat) (u v:Value) (l1 l2 s1 s2:Nat) (L:Nat→Bool) (w':World):Prop where
 d1:L s1=true→L l1=true∧L l2=true
 d2:L s2=true→L s1=true
 p0:L s1=false→aa [] y w'∧ao w' G T cur
 p1:L s1=true→L s2=false→aa [G] y w'∧ao w' G T (cur.setIfInBounds i u)
 p2:L s2=true→aa [G] y w'∧ao w' G T ((cur.setIfInBounds i u).setIfInBounds j v)
section
variable {y:World} {G:Nat} {T:TypeId} {cur:Array Value} {i j:Nat} {u v:Value} {l1 l2 s1 s2:Nat} {L:Nat→Bool} {w':World}
theorem oS.start (D:ao y G T cur):oS y G T cur i j u v l1 l2 s1 s2 (fun _=>false) y.drew :=
 ⟨(fun h=>by cases h),(fun h=>by cases h),fun _=>⟨(Fz _ _).drew,D.drew⟩,(fun h=>by cases h),fun h=>by cases h⟩
theorem oS.far (h:oS y G T cur i j u v l1 l2 s1 s2 L w') {k:Nat} (M:k≠s1) (J:k≠s2):oS y G T cur i j u v l1 l2 s1 s2 (bd L k) w':=by
 have D:bd L k s1=L s1:=by unfold bd;rw[if_neg (Ne.symm M)]
 have H:bd L k s2=L s2:=by unfold bd;rw[if_neg (Ne.symm J)]
 have I:∀ q,L q=true→bd L k q=true:=fun q N=>rU N
 refine ⟨fun h'=>?_,fun h'=>?_,fun h'=>?_,fun h' h''=>?_,fun h'=>?_⟩
 ·rw[D] at h';exact ⟨I _ (h.d1 h').1,I _ (h.d1 h').2⟩
 ·rw[H] at h';rw[D];exact h.d2 h'
 ·rw[D] at h';exact h.p0 h'
 ·rw[D] at h';rw[H] at h'';exact h.p1 h' h''
 rw[H] at h';exact h.p2 h'
theorem oS.ld1 (h:oS y G T cur i j u v l1 l2 s1 s2 L w') (D:L l1=false):aa [] y w'∧ao w' G T cur:=by
 refine h.p0 ?_
 cases H:L s1 with
 | false=>rfl
 | true=>rw[(h.d1 H).1] at D;cases D
theorem oS.ld2 (h:oS y G T cur i j u v l1 l2 s1 s2 L w') (D:L l2=false):aa [] y w'∧ao w' G T cur:=by
 refine h.p0 ?_
 cases H:L s1 with
 | false=>rfl
 | true=>rw[(h.d1 H).2] at D;cases D
theorem oS.b1 (h:oS y G T cur i j u v l1 l2 s1 s2 L w') (D:L s1=false) (N:L l1=true) (M:L l2=true) (V:s1≠s2):oS y G T cur i j u v l1 l2 s1 s2 (bd L s1) (w'.setCell ⟨G,i,none⟩ u):=by
 obtain ⟨J,O⟩:=h.p0 D;have H:bd L s1 s1=true:=by unfold bd;rw[if_pos rfl]
 have Z:bd L s1 s2=L s2:=by unfold bd;rw[if_neg (Ne.symm V)]
 have I:∀ q,L q=true→bd L s1 q=true:=fun q hq=>rU hq
 have n2:L s2=false:=by
  cases U:L s2 with
  | false=>rfl
  | true=>rw[h.d2 U] at D;cases D
 refine ⟨fun _=>⟨I _ N,I _ M⟩,fun _=>H,fun h'=>?_,fun _ _=>⟨J.of_nil.setCell (.inl (by simp)) _,O.set i u⟩,fun h'=>?_⟩
 ·rw[H] at h';cases h'
 rw[Z,n2] at h';cases h'
theorem oS.b2 (h:oS y G T cur i j u v l1 l2 s1 s2 L w') (V:L s2=false) (D:L s1=true) (O:s1≠s2):oS y G T cur i j u v l1 l2 s1 s2 (bd L s2) (w'.setCell ⟨G,j,none⟩ v):=by
 obtain ⟨N,J⟩:=h.p1 D V;have U:bd L s2 s2=true:=by unfold bd;rw[if_pos rfl]
 have I:bd L s2 s1=L s1:=by unfold bd;rw[if_neg O]
 have H:∀ q,L q=true→bd L s2 q=true:=fun q M=>rU M
 refine ⟨fun _=>⟨H _ (h.d1 D).1,H _ (h.d1 D).2⟩,fun _=>H _ D,fun h'=>?_,fun _ h'=>?_,fun _=>⟨N.setCell (.inl (by simp)) _,J.set j v⟩⟩
 ·rw[I,D] at h';cases h'
 rw[U] at h';cases h'
end
theorem wN (X Y Z:List SR) (x y:SR) (rest:List Value) {p q:Nat} (h:p=X.length) (D:q=X.length+1+Y.length):((bf (X++x::(Y++y::Z)) rest).setIfInBounds p y.v).setIfInBounds q x.v=bf (X++y::(Y++x::Z)) rest:=by
 rw[rT X (Y++y::Z) x y rest h];have e:∀ z:SR,X++y::(Y++z::Z)=(X++y::Y)++z::Z:=fun z=>by simp
 rw[e y,e x,rT _ Z y x rest (by rw[D];simp;omega)]
theorem tI (X Y Z:List SR) (x y:SR) (rest:List Value) {p q:Nat} (h:p=X.length) (D:q=X.length+1+Y.length):((bf (X++x::(Y++y::Z)) rest).setIfInBounds q x.v).setIfInBounds p y.v=bf (X++y::(Y++x::Z)) rest:=by
 have e:∀ z:SR,X++x::(Y++z::Z)=(X++x::Y)++z::Z:=fun z=>by simp
 rw[e y,rT _ Z y x rest (by rw[D];simp;omega),←e x,rT X (Y++x::Z) x y rest h]
theorem oT (X Y Z:List SR) (x y:SR) (rest:List Value) {q:Nat} (h:q=X.length+1+Y.length):(bf (X++x::(Y++y::Z)) rest)[q]? = some y.v:=by
 have e:X++x::(Y++y::Z)=(X++x::Y)++y::Z:=by simp
 rw[e];exact qN _ _ _ _ (by rw[h];simp;omega)
structure aG (y:World) (G:Nat) (rest:List Value) (l:List SR) (w:World):Prop where
 k:aa [G] y w
 b:ao w G 89 (bf l rest)
def qO (ops:Array Oper):Bool:=(List.range ops.size).all fun i=>((ops[i]?).map fun o=>o.after.all fun e=> !Region.binds .any e||decide (e.on<i)).getD false
theorem oU {ops:Array Oper} (h:qO ops=true) {i:Nat} {o:Oper} (H:ops[i]? = some o) {e:Edge} (N:e∈o.after) (J:Region.binds .any e=true):e.on<i:=by
 have M:i<ops.size:=(Array.getElem?_eq_some_iff.1 H).1;have D:=List.all_eq_true.1 h i (List.mem_range.2 M);rw[H] at D;simp only[Option.map_some,Option.getD_some,Array.all_eq_true_iff_forall_mem] at D;have I:=D e N;rw[J] at I;simpa using I
theorem kG {ops:Array Oper} {listed:Array Bool} {L:Nat→Bool} (hd:qO ops=true) (h:iE ops listed L) (i:Nat) :
  i∈Region.ready .any ops listed↔i<ops.size∧L i=false∧∀ o,ops[i]? = some o→∀ e∈o.after,Region.binds .any e=true→L e.on=true:=by
 unfold Region.ready;rw[List.mem_filter,List.mem_range];constructor
 ·rintro ⟨H,M⟩
  rw[Bool.and_eq_true,h.get H] at M;refine ⟨H,by simpa using M.1,fun o D e N I=>?_⟩;have J:=M.2;rw[D] at J;simp only[Option.map_some,Option.getD_some,Array.all_eq_true_iff_forall_mem] at J;have O:=J e N;rw[I,Bool.not_true,Bool.false_or,h.get (by have:=oU hd D N I;omega)] at O;exact O
 rintro ⟨H,M,J⟩;refine ⟨H,?_⟩;rw[Bool.and_eq_true,h.get H,M];refine ⟨rfl,?_⟩;obtain ⟨o,D⟩:∃ o,ops[i]? = some o:=⟨_,Array.getElem?_eq_getElem H⟩
 rw[D];simp only[Option.map_some,Option.getD_some,Array.all_eq_true_iff_forall_mem];intro e N
 cases I:Region.binds .any e with
 | false=>rfl
 | true =>
  rw[Bool.not_true,Bool.false_or,h.get (by have:=oU hd D N I;omega)];exact J o D e N I
theorem tJ {ops:Array Oper} {L:Nat→Bool} (hd:qO ops=true):∀ (i:Nat),i<ops.size→L i=false→∃ j,j<ops.size∧L j=false∧∀ o,ops[j]? = some o→∀ e∈o.after,Region.binds .any e=true→L e.on=true:=by
 intro i
 induction i using Nat.strongRecOn with
 | ind i ih =>
  intro M V;by_cases J:∃ o,ops[i]? = some o∧∃ e∈o.after,Region.binds .any e=true∧L e.on=false
  ·obtain ⟨o,I,e,D,H,U⟩:=J
   have h:=oU hd I D H;exact ih e.on h (by omega) U
  refine ⟨i,M,V,fun o I e D N=>?_⟩
  cases O:L e.on with
  | true=>rfl
  | false=>exact absurd ⟨o,I,e,D,N,O⟩ J
section
variable {P:Program} {ops:Array Oper} {Q:Exit→Act→World→Prop}
theorem oV (hd:qO ops=true) (I:(Nat→Bool)→Act→World→Prop)
  (Z:∀ i,i<ops.size→∀ L a w,L i=false→(∀ o,ops[i]? = some o→∀ e∈o.after,Region.binds .any e=true→L e.on=true)→I L a w→wpOp P ops Q i (I (bd L i)) a w)
  (O:∀ L a w,(∀ i,i<ops.size→L i=true)→I L a w→Q .normal a w) :
  ∀ (fuel:Nat) (listed:Array Bool) (L:Nat→Bool) (a:Act) (w:World),iE ops listed L→ia L ops.size≤fuel→I L a w→wpAny P .any ops Q fuel listed a w
 | 0,listed,L,a,w,J,V,M=>by
  have D:=oQ (Nat.le_zero.1 V);refine ⟨List.eq_nil_iff_forall_not_mem.2 fun i H=>?_,O L a w D M⟩;have:=(kG hd J i).1 H;rw[D i this.1] at this;exact absurd this.2.1 (by decide)
 | fuel+1,listed,L,a,w,J,V,M=>by
  refine ⟨fun hr=>O L a w (fun i H=>?_) M,fun i H=>?_⟩
  ·cases hl:L i with
   | true=>rfl
   | false =>
    obtain ⟨j,hj⟩:=tJ hd i H hl;have:=(kG hd J j).2 hj;rw[hr] at this;cases this
  obtain ⟨N,U,h3⟩:=(kG hd J i).1 H;have hc:=mc U N;exact wpOp_mono (fun a' w' h=>oV hd I Z O fuel _ (bd L i) a' w' (J.set N) (by omega) h) (Z i N L a w U h3 M)
theorem oW {id:Nat} {a:Act} {w:World} (J:P.follows .mixedOrders=true) (hd:qO ops=true) (I:(Nat→Bool)→Act→World→Prop)
  (h:I (fun _=>false) a w.drew)
  (H:∀ i,i<ops.size→∀ L a w,L i=false→(∀ o,ops[i]? = some o→∀ e∈o.after,Region.binds .any e=true→L e.on=true)→I L a w→wpOp P ops Q i (I (bd L i)) a w)
  (M:∀ L a w,(∀ i,i<ops.size→L i=true)→I L a w→Q .normal a w):(Code.region id ops true).wp P Q a w:=by
 refine wp_region_any J (oV hd I H M ops.size _ (fun _=>false) a _ ⟨by simp,fun i D=>by simp[D]⟩ ?_ h);unfold ia;refine Ft List.countP_le_length (by simp)
end
theorem eo {G:Type} {P:Program} {ops:Array Oper} {Q:Exit→Act→World→Prop} {id:Nat} {a:Act} {w:World} (Z:P.follows .mixedOrders=true) (hd:qO ops=true) (V:yN ops a.tmps.size=true) (v:G→Nat→Value) (I:G→(Nat→Bool)→World→Prop)
  (M:∃ g,I g (fun _=>false) w.drew) (hs:oR (Dc P ops Q v I a) ops.size)
  (hf:∀ g L w',(∀ i,i<ops.size→L i=true)→I g L w'→Q .normal ⟨((List.range a.tmps.size).map (Ck ops (v g) a)).toArray,a.defers⟩ w'):(Code.region id ops true).wp P Q a w:=by
 obtain ⟨O,M⟩:=M;refine oW Z hd (fun L H w'=>∃ g,ib ops (v g) L a H∧I g L w') ⟨O,ib.start ops (v O) a,M⟩ ?_ ?_
 ·rintro i U L H w' hL D ⟨g,J,N⟩
  exact hs.at i U V g L H w' hL (AQ D) J N
 rintro L H w' h ⟨g,J,N⟩;rw[J.fin h];exact hf g L w' h N
end
end Go.Proofs.YtecpeogejjibaaaGreatDoor
