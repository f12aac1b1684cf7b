/- Maps of texts to values of whatever kind, as lists of what was put (the last first): by run equations; how many there are; a range over one. -/
import Derived.Test.YtpagiajlefejcaaGreatDoorPfiM1
import Derived.Maps.Keyed
import Derived.Maps.Views
import Derived.Maps.Range
import Derived.Test.YtpagiajlefejcaaGreatDoorShTab
import Derived.Shelf.Strings.SlTrimAscii
import Derived.Maps.Own
import Derived.Maps.OwnSet
import Derived.Maps.StringElems
import Derived.Maps.AppendAt
import Derived.Lib.SlFresh
import Derived.Lib.AppendZeros
import Derived.Lib.AppendZerosOnto
import Derived.OwnWalk
import Derived.Lib.IndexMore
import Derived.Test.YtpagiajlefejcaaGreatDoorProg
import Derived.Shelf.Strings.Builder1
import Derived.Lib.OthersKept
import Derived.Orders
set_option linter.unusedSimpArgs false
set_option linter.unusedVariables false
set_option maxRecDepth 100000
set_option maxHeartbeats 16000000
namespace Go.Proofs.YtpagiajlefejcaaGreatDoor
open Go.Lib renaming hid → zx
open Go.Proofs.Tryz renaming prog → zy
open _root_.Nat renaming le_refl → zz, zero_le → zE
open _root_.List renaming mem_singleton → zD, length_append → zF, length_cons → zG, getElem_mem → zH, getElem?_eq_getElem → zI, length_nil → zK, getD_eq_getElem?_getD → zM
open aa renaming refl → zN
open Go.Value renaming string → zQ, slice → zR, int → zW
open Go.Ending renaming returned → zT
open Go.Obj renaming cells → zU
open Go.IntKind renaming i64 → zX
section
open Go.RowKit Go.Maps
def mi {β:Type}:List (Bs×β)→Nat
 | []=>0
 | x::m=>if (m.lookup x.1).isSome then mi m else mi m+1
theorem iA {β:Type} {m:List (Bs×β)} {k:Bs}:(m.lookup k).isSome=true↔k∈m.map (·.1):=by
 induction m with
 | nil=>simp
 | cons x m ih =>
  obtain ⟨a,b⟩:=x;rw[List.lookup_cons];by_cases h:k=a
  ·subst h;simp
  have:(k==a)=false:=by simpa using h
  rw[this];simp[ih,h]
def cz (P:Program) (S:TypeId) (w:World) (b:Nat) (m:List (Bs×Value)):Prop :=
 ∃ D:DataW Value,w.ownsMap P S wS b m.length D∧Maps.Tidy D∧Maps.size D=mi m∧∀ k:Bs,Maps.has D (.string k)=(m.lookup k).isSome∧∀ v,m.lookup k=some v→∀ z,D.atKey (.string k) z= .held v
section
variable {P:Program} {T S E:TypeId} {w w':World} {b:Nat} {m:List (Bs×Value)}
theorem cz.lt (h:cz P S w b m):b<w.heap.size:=by obtain ⟨D,h,_⟩:=h;exact h.lt
theorem cz.made (w:World):cz P S (w.alloc (.map #[] 0)) w.heap.size [] :=
 ⟨_,World.ownsMap_made w _ _ _,Maps.tidy_empty,rfl,fun k=>⟨rfl,fun _ h=>by cases h⟩⟩
theorem cz.of_block (h:cz P S w b m) (O:w'.heap[b]? = w.heap[b]?):cz P S w' b m:=by
 obtain ⟨D,⟨J,A,I,B⟩,M⟩:=h;exact ⟨D,⟨J,A,O.trans I,B⟩,M⟩
theorem cz.keep {L:List Nat} (h:cz P S w b m) (A:aa L w w') (B:b∉L):cz P S w' b m:=h.of_block (A.block b h.lt B)
theorem cz.drew (h:cz P S w b m):cz P S w.drew b m:=h
theorem cz.look0 (h:cz P S w b m) (hT:P.underlying T=some (.map S E)) (O:P.underlying S=some .string) {z:Value} (hz:(zeroValue E).run P w= .ok z w) (k:Bs) (Z:k.length≤maxLen) :
  (Instr.lookup T (.map (some b)) (.string (bs k)) false).run P w= .ok ((m.lookup k).getD z) w:=by
 obtain ⟨D,h1,_,_,J⟩:=h;have A:keyOf P S (.string (bs k))=some (.string k):=WideMaps.keyOf_string_mk O (by rw[ag];exact Z);obtain ⟨v,ps,B,I⟩:=h1.lookup (string_keyed O) hT hz (zd:= .held z) (zp:=[]) rfl A;rw[B];have hv':DataW.held v=D.atKey (.string k) (.held z):=by
  injection I with I;exact congrArg Prod.fst I
 cases M:m.lookup k with
 | some u =>
  rw[(J k).2 u M] at hv';injection hv' with e;rw[e];rfl
 | none =>
  have U:Maps.has D (.string k)=false:=by rw[(J k).1,M];rfl
  rw[atKey_of_not_has U] at hv';injection hv' with e;rw[e];rfl
theorem cz.look (h:cz P S w b m) (hT:P.underlying T=some (.map S E)) (O:P.underlying S=some .string) {z:Value} (hz:(zeroValue E).run P w= .ok z w) (k:Bs) (Z:k.length≤maxLen) :
  (Instr.lookup T (.map (some b)) (.string (bs k)) true).run P w= .ok (.tuple #[(m.lookup k).getD z,.bool (m.lookup k).isSome]) w:=by
 obtain ⟨D,h1,_,_,I⟩:=h;have A:keyOf P S (.string (bs k))=some (.string k):=WideMaps.keyOf_string_mk O (by rw[ag];exact Z);obtain ⟨v,ps,B,J⟩:=h1.look_ok (string_keyed O) hT hz (zd:= .held z) (zp:=[]) rfl A;rw[B,(I k).1];have hv':DataW.held v=D.atKey (.string k) (.held z):=by
  injection J with J;exact congrArg Prod.fst J
 cases M:m.lookup k with
 | some u =>
  rw[(I k).2 u M] at hv';injection hv' with e;rw[e];rfl
 | none =>
  have U:Maps.has D (.string k)=false:=by rw[(I k).1,M];rfl
  rw[atKey_of_not_has U] at hv';injection hv' with e;rw[e];rfl
theorem gf {β:Type} (m:List (Bs×β)) (k:Bs) (v:β) (x:Bs):((k,v)::m).lookup x=if x=k then some v else m.lookup x:=by
 rw[List.lookup_cons];by_cases h:x=k
 ·subst h;simp
 have:(x==k)=false:=by simpa using h
 rw[this,if_neg h]
theorem cz.store (h:cz P S w b m) (hT:P.underlying T=some (.map S E)) (Z:P.underlying S=some .string) (k:Bs) (v:Value) (hk:k.length≤maxLen) (hn:m.length<maxLen) :
  ∃ w',(Instr.mapUpdate T (.map (some b)) (.string (bs k)) v).run P w= .ok () w'∧cz P S w' b ((k,v)::m)∧w.grownBy w' (some b):=by
 obtain ⟨D,h1,J,hs,M⟩:=h;have B:keyOf P S (.string (bs k))=some (.string k):=WideMaps.keyOf_string_mk Z (by rw[ag];exact hk);obtain ⟨w',I,h3,h4⟩:=h1.update (string_keyed Z) hT hn B (d:= .held v) (ps:=[]) rfl;refine ⟨w',I,⟨_,h3,J.put (by trivial) _,?_,fun x=>?_⟩,h4⟩
 ·rw[size_put J,hs,(M k).1]
  rfl
 rw[gf];by_cases U:x=k
 ·subst U
  simp only[if_pos];exact ⟨by rw[has_put_same J.isMap (by trivial)];rfl,fun u O z=>by
   cases O
   rw[atKey_put_same J.isMap (by trivial)]⟩
 have A:(Lit.string x)≠Lit.string k:=fun e=>U (by injection e)
 simp only[if_neg U];refine ⟨?_,fun u O z=>?_⟩
 ·rw[has_put_other A];exact (M x).1
 rw[atKey_put_other A];exact (M x).2 u O z
theorem cz.len (h:cz P S w b m) (B:P.underlying T=some (.map S E)) (A:TypeId):(Builtin.len_ #[T] A #[.map (some b)]).run P w= .ok (.int .i64 (mi m)) w:=by
 obtain ⟨D,I,_,J,_⟩:=h;rw[I.len B A,J]
def eW (P:Program) (S:TypeId) (w:World) (b r:Nat) (m:List (Bs×Value)) (L:Bs→Bool) (h:Nat):Prop :=
 ∃ D:DataW Value,∃ left,w.ranges P S wS b r m.length D left h∧(∀ k,left (.string k)=L k)∧∀ k:Bs,Maps.has D (.string k)=(m.lookup k).isSome∧∀ v,m.lookup k=some v→∀ z,D.atKey (.string k) z= .held v
theorem eW.left_eq {r A:Nat} {L:Bs→Bool} (h:eW P S w b r m L A):w.rangeLeft b r=A:=by
 obtain ⟨D,left,B,_⟩:=h;exact B.left_eq
theorem eW.lt {r A:Nat} {L:Bs→Bool} (h:eW P S w b r m L A):r<w.heap.size:=by
 obtain ⟨D,left,B,_⟩:=h;exact B.lt
theorem eW.kept {r I:Nat} {L:Bs→Bool} {M:List Nat} (h:eW P S w b r m L I) (O:aa M w w') (h1:b∉M) (Z:r∉M):eW P S w' b r m L I:=by
 obtain ⟨D,left,J,h3⟩:=h;refine ⟨D,left,?_,h3⟩;have hl:=J.lt;have hb:=J.owns.lt;obtain ⟨es,B,A,seen,c0,g1,g2,g3,g4,g5,U⟩:=J;exact ⟨es,B,A,seen,c0,(O.block b hb h1).trans g1,g2,g3,g4,(O.block r hl Z).trans g5,U⟩
theorem ju (D:P.underlying S=some .string) {A:Value} {B:Lit} (h:keyOf P S A=some B):∃ k:Bs,A= .string (bs k)∧B= .string k:=by
 cases A<;>simp[keyOf,D,mapKey] at h
 case string s =>
  obtain ⟨_,rfl⟩:=h;exact ⟨s.data.toList,congrArg Value.string (qQ s).symm,rfl⟩
theorem kI {ops:Array Oper} {rest:List Oper} {o:Oper} {a:Act} {Q:Exit→Act→World→Prop} (B:o.guard=none) (x:Operand) (I:o.op=Op.range T x) (Z:P.underlying T=some (.map S E)) (hS:P.underlying S=some .string)
  (hm:a.eval x= .map (some b)) (h:cz P S w b m)
  (hK:∀ w',eW P S w' b w.heap.size m (fun k=>(m.lookup k).isSome) (mi m)→aa [] w w'→w'.heap.size=w.heap.size+1→wpList P ops Q rest (a.put o.dst (.pointer (some ⟨w.heap.size,0,none⟩))) w') :
  wpList P ops Q (o::rest) a w:=by
 obtain ⟨D,h1,ht,hs,M⟩:=h;refine wpList_plain B fun K' J=>?_
 obtain ⟨w',A,U,r2,O⟩:=h1.range (string_keyed hS) Z;unfold Oper.wp;simp[execOp,I,hm,A,Result.andThen];refine J _ _ (hK w' ⟨D,_,by rw[←hs];exact U,fun k=>(M k).1,M⟩ (aa.grown (zN _ _) r2 (fun g B=>by cases B)) O)
theorem mj {ops:Array Oper} {rest:List Oper} {o:Oper} {a:Act} {Q:Exit→Act→World→Prop} (O:o.guard=none) (it:Operand) (Z:o.op=Op.next it false) (hS:P.underlying S=some .string) {r M:Nat} {L:Bs→Bool}
  (ad:a.eval it= .pointer (some ⟨r,0,none⟩)) (h:eW P S w b r m L M)
  (hDone:M=0→(∀ k,L k=false)→wpList P ops Q rest (a.put o.dst (.tuple #[.bool false])) w)
  (hMore:∀ (k:Bs) (v:Value) (w':World) (A:Nat),L k=true→m.lookup k=some v→eW P S w' b r m (fun x=>L x && !(x==k)) A→A<M→aa [r] w w'→w'.heap.size=w.heap.size →
   (Instr.entry (.pointer (some ⟨r,0,none⟩))).run P w'= .ok (.tuple #[.string (bs k),v]) w'→wpList P ops Q rest (a.put o.dst (.tuple #[.bool true,.string (bs k),v])) w') :
  wpList P ops Q (o::rest) a w:=by
 obtain ⟨D,left,hr,hL,h2⟩:=h;refine wpList_plain O fun K' a1=>?_
 unfold Oper.wp;rcases hr.next (string_keyed hS) o.type with ⟨h0,hl,I⟩|⟨a8,v,kl,y,w',A,aA,a7,hv,U,I,a3,a2,a6,a5,a4⟩
 ·simp[execOp,Z,ad,I,Result.andThen]
  exact a1 _ _ (hDone h0 fun k=>(hL k).symm.trans (hl _))
 obtain ⟨k,rfl,rfl⟩:=ju hS aA;simp[execOp,Z,ad,I,Result.andThen];have hy:y=(.held v,[]):=by injection hv with hv;exact hv.symm
 subst hy;have a0:Maps.has D (.string k)=true:=has_true_of_atKey U;have B:=(h2 k).1;rw[a0] at B;obtain ⟨u,hu⟩:=Option.isSome_iff_exists.1 B.symm;have J:=(h2 k).2 u hu (.held v);rw[U] at J;injection J with J;subst J;refine a1 _ _ (hMore k v w' A ((hL k).symm.trans a7) hu ⟨D,_,a3,fun x=>?_,h2⟩ a2 (aa.grown (zN _ _) a6 (fun g O=> .inl (by injection O with O;simp[O]))) a5 a4);show (left (.string x) && !(Lit.string x).sameKey (.string k))=_;rw[hL x];rfl
end
end
section
theorem kJ {a:List Cl}:∀ {ns seen:List Bs} {A out:List Cl},bK a seen ns A= .ok out→out.length=A.length+ns.length
 | [],seen,A,out,h=>by
  unfold bK at h;cases h
  rfl
 | n::ns,seen,A,out,h=>by
  unfold bK at h;split at h
  ·cases h
  split at h
  ·cases h
  rw[kJ h,zF,List.length_singleton,zG];omega
theorem mN {j:Jb} {ins cs:List (List Cl)} (h:cA j ins= .ok cs) (Z:∀ l∈ins,l.length≤6):∀ c∈cs,c.length≤6:=by
 have U:∀ k,(ins.getD k []).length≤6:=fun k=>by
  by_cases I:k<ins.length
  ·rw[zM,zI I]
   exact Z _ (zH I)
  rw[zM,List.getElem?_eq_none (by omega)];simp
 have B:=U 0;have A:∀ {q:List Cl},q.length≤6→∀ c∈[q],c.length≤6:=fun O c D=>by rw[zD.1 D];exact O
 unfold cA at h;split at h
 ·cases h
 split at h
 ·unfold bM at h
  split at h
  ·cases h
  split at h
  ·cases h
  split at h
  ·cases h
  cases h
  intro c D;rw[List.eq_of_mem_replicate D];exact B
 split at h
 ·unfold iU at h
  split at h
  ·cases h
  split at h
  ·cases h
  split at h
  ·cases h
  cases h;exact A B
 split at h
 ·unfold bT at h
  split at h
  ·cases h
  rename_i J;split at h
  ·cases h
  rename_i out M;cases h
  refine A ?_;split
  ·exact B
  rw[kJ M,zK,Nat.zero_add];omega
 split at h
 ·split at h
  ·cases h
  cases h;exact A B
 split at h
 ·unfold cy at h
  split at h
  ·cases h
  split at h
  ·split at h
   ·cases h
   split at h
   ·cases h
   split at h
   ·cases h
   rename_i J;cases h
   exact A (by omega)
  cases h
 split at h
 ·unfold cC at h
  split at h
  ·cases h
  split at h
  ·split at h
   ·cases h
   split at h
   ·cases h
   cases h
   exact A (by simp)
  cases h
 cases h;exact A B
def uR (m:Cm):Prop:=∀ q∈m,q.2.length≤6
theorem uR.get {m:Cm} (h:uR m) (n:Bs):(ce m n).length≤6:=by
 unfold ce
 induction m with
 | nil=>simp
 | cons q m ih =>
  obtain ⟨A,q2⟩:=q;rw[List.lookup_cons];by_cases B:n=A
  ·subst B
   simp only[beq_self_eq_true];exact h _ (List.mem_cons_self ..)
  have:(n==A)=false:=by simpa using B
  rw[this];exact ih fun q D=>h q (List.mem_cons_of_mem _ D)
theorem uR.put {m:Cm} (h:uR m) {n:Bs} {c:List Cl} (B:c.length≤6):uR ((n,c)::m):=fun q A=>by
 rcases List.mem_cons.1 A with rfl|A
 ·exact B
 exact h q A
def bS {α:Type} (p:α→Bool) (l:List α):Int:=match l.findIdx? p with|some i=>(i:Int)|none=> -1
theorem fa {α:Type} {p:α→Bool} {l:List α} {k:Nat} (h:k<l.length) (D:∀ j (A:j<k),p (l[j]'(by omega))=false) (B:p l[k]=true):bS p l=(k:Int):=by
 unfold bS;have:l.findIdx? p=some k:=by
  rw[List.findIdx?_eq_some_iff_getElem];exact ⟨h,B,fun j A=>by simpa using D j A⟩
 rw[this]
theorem eB {α:Type} {p:α→Bool} {l:List α} (A:∀ j (h:j<l.length),p l[j]=false):bS p l= -1:=by
 unfold bS;have:l.findIdx? p=none:=by
  rw[List.findIdx?_eq_none_iff];intro x B;obtain ⟨j,h,rfl⟩:=List.getElem_of_mem B;exact A j h
 rw[this]
theorem gp {α:Type} (p:α→Bool) (l:List α):decide (0≤bS p l)=l.any p:=by
 unfold bS
 cases h:l.findIdx? p with
 | none =>
  rw[List.findIdx?_eq_none_iff] at h;simp;intro x D;simpa using h x D
 | some i =>
  rw[List.findIdx?_eq_some_iff_getElem] at h;obtain ⟨B,A,_⟩:=h;simp;exact ⟨_,zH B,A⟩
end
section
open Go.RowKit
attribute [local go_sem] ag ab ae af
theorem qZ (k:Bs):(bs k).data.toList=k:=rfl
theorem mo (l:Bs) (c:UInt8):decide (0≤Lib.indexByte l c)=l.contains c:=by
 induction l with
 | nil=>rfl
 | cons b l ih =>
  have B:=Lib.indexByte_ge l c;unfold Lib.indexByte;rw[List.contains_cons];by_cases h:b=c
  ·subst h;simp
  have I:(b==c)=false:=beq_eq_false_iff_ne.2 h;have D:(c==b)=false:=beq_eq_false_iff_ne.2 (Ne.symm h);rw[I,D,Bool.false_or,←ih];simp only[Bool.false_eq_true,if_false];by_cases A:Lib.indexByte l c= -1
  ·rw[A];rfl
  have:(Lib.indexByte l c== -1)=false:=beq_eq_false_iff_ne.2 A;rw[this,decide_eq_decide];simp only[Bool.false_eq_true,if_false];omega
theorem mq {p:UInt8→Bool} (l:Bs):(l.dropWhile p)=[]↔∀ x∈l,p x=true:=by
 induction l with
 | nil=>simp
 | cons a l ih =>
  rw[List.dropWhile_cons];by_cases h:p a=true
  ·rw[if_pos h,ih];simp[h]
  rw[if_neg h];simp[h]
theorem mr {p:UInt8→Bool} (l:Bs) (x:UInt8) (A:x∈l) (B:p x=false):x∈l.dropWhile p:=by
 induction l with
 | nil=>cases A
 | cons a l ih =>
  rw[List.dropWhile_cons];by_cases h:p a=true
  ·rw[if_pos h]
   rcases List.mem_cons.1 A with rfl|A
   ·rw[B] at h;cases h
   exact ih A
  rw[if_neg h];exact A
theorem rK (l cs:Bs):(Lib.trimS l cs).isEmpty=l.all (cs.contains ·):=by
 rw[Bool.eq_iff_iff,List.isEmpty_iff,List.all_eq_true];unfold Lib.trimS Lib.trimLeftS Lib.trimRightS;rw[mq];constructor
 ·intro h x B
  cases I:cs.contains x with
  | true=>rfl
  | false =>
   have A:=mr (p:=(cs.contains ·)) l.reverse x (by simpa using B) I;have D:=h x (by simpa using A);rw[I] at D;cases D
 intro h x B;have A:x∈l.reverse.dropWhile (cs.contains ·):=by simpa using B
 exact h x (by simpa using (List.dropWhile_sublist _).subset A)
theorem tw (s:Bs) (hs:s.length≤1000000000) (w:World) :
  Calls zy 14 #[zQ (bs s)] w fun e w'=>e=zT (.bool (fr s))∧aa [] w w':=by
 obtain ⟨R,h⟩:∃ R,fr s=R:=⟨_,rfl⟩
 rw[h];rcases s with _|⟨c,t⟩
 ·have Z:=zx h
  clear h;go_enter Tryz.func14,Tryz.ntmps14
  go_wp2;go_ret;exact ⟨by rw[←Z.out];rfl,zN _ _⟩
 have D:∀ W,Calls zy 53 #[zQ (bs eK),.int .u8 (((bs (c::t))[0]'(by rw[ag];simp)).toNat:Int)] W fun e w'=>e=zT (zW zX (Lib.indexByte eK c))∧W=w':=fun W=>by
  refine (Tryz.strings_IndexByte (bs eK) (((bs (c::t))[0]'(by rw[ag];simp)).toNat:Int) W).mono ?_;rintro e w' ⟨rfl,rfl⟩;refine ⟨?_,rfl⟩;have M:((bs (c::t))[0]'(by rw[ag];simp))=c:=rfl;rw[M,Int.toNat_natCast];have e1:c.toNat.toUInt8=c:=by simp
  rw[e1];rfl
 have B:=mo eK c;generalize Lib.indexByte eK c=q at D B;have A:=fun (W:World)=>Any.strings_Trim_laid Tryz.lays160 (by kernel_rfl) (bs (c::t)) (bs dc) W (by rw[ag];omega) (by decide) (ascii_of_all (by decide))
 have I:=rK (c::t) dc;rw[qZ,qZ] at A;generalize Lib.trimS (c::t) dc=u at A I;have U:=zx D;have HT:=zx A;have J:Hid (R=(decide ((c::t).length≤10)&&decide (0≤q)&&u.isEmpty)):=zx (h.symm.trans (by unfold fr;rw[B,I];rfl));clear D A I B h;go_enter Tryz.func14,Tryz.ntmps14
 go_wp2_with (first|(go_at_call 53;refine (U.out _).mono ?_;rintro e w5 ⟨rfl,rfl⟩)|(go_at_call 54;refine (HT.out _).mono ?_;rintro e w6 ⟨rfl,O⟩))
 all_goals go_ret
 all_goals refine ⟨?_,by first|exact aa.of_below O|exact zN _ _⟩
 all_goals rw[J.out]
 all_goals refine congrArg (fun b=>Ending.returned (.bool b)) (?_:_=_)
 all_goals first|rfl|(simp_all;done)|(simp_all;omega)|(simp_all;intros;omega)
end
section
open Go.RowKit Go.Maps
def db (P:Program) (S E:TypeId) (w:World) (b n:Nat) (l:List Bs):Prop :=
 ∃ D:DataW Unit,w.ownsMap P S (plainElem P E) b n D∧∀ k:Bs,Maps.has D (.string k)=decide (k∈l)∧D.atKey (.string k) (.lit (.bool false))= .lit (.bool (decide (k∈l)))
section
variable {P:Program} {T S E:TypeId} {w w':World} {b n:Nat} {l:List Bs}
theorem db.lt (h:db P S E w b n l):b<w.heap.size:=by obtain ⟨D,h,_⟩:=h;exact h.lt
theorem db.made (w:World):db P S E (w.alloc (.map #[] 0)) w.heap.size 0 [] :=
 ⟨_,World.ownsMap_made w _ _ _,fun _=>⟨rfl,rfl⟩⟩
theorem db.of_block (h:db P S E w b n l) (O:w'.heap[b]? = w.heap[b]?):db P S E w' b n l:=by
 obtain ⟨D,⟨J,A,I,B⟩,M⟩:=h;exact ⟨D,⟨J,A,O.trans I,B⟩,M⟩
theorem db.keep {L:List Nat} (h:db P S E w b n l) (A:aa L w w') (B:b∉L):db P S E w' b n l:=h.of_block (A.block b h.lt B)
theorem db.mono (h:db P S E w b n l) {n':Nat} (I:n≤n'):db P S E w b n' l:=by
 obtain ⟨D,B,A⟩:=h;exact ⟨D,B.mono I,A⟩
theorem iJ {v:Value} {d:DataW Unit} {ps:List MemPlace} (A:P.underlying E=some .bool) (h:plainElem P E v=some (d,ps)):∃ x,v= .bool x∧d= .lit (.bool x):=by
 simp only[plainElem,A] at h;cases v<;>simp at h
 exact ⟨_,rfl,h.1.symm⟩
theorem db.look (h:db P S E w b n l) (Z:P.underlying T=some (.map S E)) (M:P.underlying S=some .string) (J:P.underlying E=some .bool) (hz:(zeroValue E).run P w= .ok (.bool false) w) (k:Bs) (O:k.length≤maxLen) :
  (Instr.lookup T (.map (some b)) (.string (bs k)) false).run P w= .ok (.bool (decide (k∈l))) w:=by
 obtain ⟨D,h1,h2⟩:=h;have I:keyOf P S (.string (bs k))=some (.string k):=WideMaps.keyOf_string_mk M (by rw[ag];exact O);obtain ⟨v,ps,B,U⟩:=h1.lookup (string_keyed M) Z hz (plainElem_bool J false) I;obtain ⟨x,rfl,A⟩:=iJ J U;rw[(h2 k).2] at A;injection A with A;injection A with A;rw[B,A]
theorem db.store (h:db P S E w b n l) (hT:P.underlying T=some (.map S E)) (Z:P.underlying S=some .string) (hE:P.underlying E=some .bool) (k:Bs) (hk:k.length≤maxLen) (hn:n<maxLen) :
  ∃ w',(Instr.mapUpdate T (.map (some b)) (.string (bs k)) (.bool true)).run P w= .ok () w'∧db P S E w' b (n+1) (k::l)∧w.grownBy w' (some b):=by
 obtain ⟨D,O,M⟩:=h;have B:keyOf P S (.string (bs k))=some (.string k):=WideMaps.keyOf_string_mk Z (by rw[ag];exact hk);obtain ⟨w',I,h3,h4⟩:=O.update (string_keyed Z) hT hn B (plainElem_bool hE true);have U:=O.isMap;refine ⟨w',I,⟨_,h3,fun x=>?_⟩,h4⟩;by_cases J:x=k
 ·subst J
  exact ⟨by rw[has_put_same U (by trivial)];simp,by rw[atKey_put_same U (by trivial)];simp⟩
 have A:(Lit.string x)≠Lit.string k:=fun e=>J (by injection e)
 have hd:decide (x∈k::l)=decide (x∈l):=by simp[J]
 rw[hd];exact ⟨by rw[has_put_other A];exact (M x).1,by rw[atKey_put_other A];exact (M x).2⟩
end
end
section
open Go.RowKit
attribute [local go_sem] ag ab ae af
theorem xx (a b:Cl) (W:World):(binOp .neq 109 (.agg #[zQ (bs a.name),zW zX a.kind]) (.agg #[zQ (bs b.name),zW zX b.kind])).run zy W= .ok (.bool (!decide (a=b))) W:=by
 have hd:decide (a=b)=(decide (a.name=b.name)&&decide (a.kind=b.kind)):=by
  obtain ⟨n,k⟩:=a;obtain ⟨D,B⟩:=b;rw[Bool.eq_iff_iff];simp
 rw[hd];simp[go_sem];by_cases A:a.name=b.name<;>by_cases h:a.kind=b.kind<;>simp[A,h,go_sem]
theorem za (a b:Vl) (W:World):(binOp .neq 27 (.agg #[zW zX a.kind,zW zX a.num,zQ (bs a.word)]) (.agg #[zW zX b.kind,zW zX b.num,zQ (bs b.word)])).run zy W= .ok (.bool (!decide (a=b))) W:=by
 have hd:decide (a=b)=(decide (a.kind=b.kind)&&decide (a.num=b.num)&&decide (a.word=b.word)):=by
  obtain ⟨k,n,s⟩:=a;obtain ⟨D,J,I⟩:=b;rw[Bool.eq_iff_iff];simp[and_assoc]
 rw[hd];simp[go_sem];by_cases A:a.kind=b.kind<;>by_cases h:a.num=b.num<;>by_cases B:a.word=b.word<;>simp[A,h,B,go_sem]
end
section
open Go.RowKit
section
variable {P:Program} (w:World)
theorem my (D:Nat) (t ty e:TypeId) (i:TypeInfo) (z:Value) (size B:Nat) (ht:P.underlying t=some (.slice e)) (hi:P.info? e=some i) (hz:i.zero=some z)
  (M:i.size=size) (a1:i.bytes=B) (a3:z.cells.size=size) (a0:0<size)
  {v:Value} {n:Nat} {xs:List Value} (I:w.ownsRow D e size v n xs) {A:Option Addr} {m:Nat} {U:List Value} (hr:Rd w [] size A m U) (c:Nat) (h1:∀ u∈U,u.oneCell'=true)
  (aA:n+m≤maxLen) (J:(n+m)*B≤140737488355328) (O:D≤w.heap.size) :
  ∃ v' w',(Builtin.append_ #[t,t] ty #[v,zR A m c]).run P w= .ok v' w'∧w'.ownsRow D e size v' (n+m) (xs++U)∧w.grownBy w' v.ownBlock:=by
 cases A with
 | some ad =>
  have hc:∀ j u,U[j]? = some u→w.cell? (ad.add j)=some u:=fun j u hu=>by
   have hm:0<m:=by
    have:=(List.getElem?_eq_some_iff.1 hu).1;rw[hr.1] at this;rcases Nat.eq_zero_or_pos m with h|h
    ·rw[h] at this;omega
    exact h
   obtain ⟨a6,e1,_,_,h⟩:=hr.2 hm;injection e1 with e1;rw[e1];exact h j u hu
  obtain ⟨v',w',Z,h2,h3,_⟩:=run_append_own_at (P:=P) w D t ty e i z size B ht hi hz M a1 a3 a0 v n xs I ad m c U hr.1 hc h1 aA J O;exact ⟨v',w',Z,h2,h3⟩
 | none =>
  have hm:m=0:=by
   rcases Nat.eq_zero_or_pos m with h|h
   ·exact h
   obtain ⟨_,h,_⟩:=hr.2 h;cases h
  subst hm;have hy:U=[]:=List.eq_nil_of_length_eq_zero (by rw[hr.1,Nat.zero_mul]);subst hy;refine ⟨v,w,?_,by simpa using I,World.grownBy.refl w _⟩;have hU:=run_underlying ht;rcases I.2 with ⟨rfl,rfl⟩|⟨g,a4,a5,rfl,_,_,a2,_⟩
  ·simp[Builtin.append_,hU,sizeOf,typeInfo,hi,Builtin.lenOf,Builtin.firstCells]
  simp[Builtin.append_,hU,sizeOf,typeInfo,hi,Builtin.lenOf,Builtin.firstCells,a2,storeCells]
theorem rR {w:World} {e:TypeId} {h:Array Value} {size G:Nat} (A:h.size=G*size) (B:G≤maxLen):(w.alloc (zU h e)).ownsRow w.heap.size e size (zR (some ⟨w.heap.size,0,none⟩) 0 G) 0 [] :=
 ⟨by simp,.inr ⟨w.heap.size,G,h,rfl,zz _,heap_alloc_new _ _,zE _,B,A,by simp⟩⟩
end
def gV (h:List (Nat×List Value)) (m:Nat):Nat:=((h.take m).map (·.1)).sum
def oP (h:List (Nat×List Value)) (m:Nat):List Value:=(h.take m).flatMap (·.2)
def zc (w:World) (size:Nat) (u:Value) (p:Nat×List Value):Prop:=∃ A c,u=zR A p.1 c∧Rd w [] size A p.1 p.2
theorem ik (A:List (Nat×List Value)) (m:Nat) (h:m<A.length):gV A (m+1)=gV A m+A[m].1:=by
 unfold gV;rw[List.take_succ_eq_append_getElem h,List.map_append,List.sum_append];simp
theorem rS (A:List (Nat×List Value)) (m:Nat) (h:m<A.length):oP A (m+1)=oP A m++A[m].2:=by
 unfold oP;rw[List.take_succ_eq_append_getElem h,List.flatMap_append];simp
theorem u7 (A:List (Nat×List Value)) {m:Nat} (h:m≤A.length):gV A m≤gV A A.length:=by
 have B:∀ d,m+d≤A.length→gV A m≤gV A (m+d):=fun d=>by
  induction d with
  | zero=>intro _;exact zz _
  | succ d ih =>
   intro h;have:=ih (by omega);have D:=ik A (m+d) (by omega);rw[←Nat.add_assoc,D];omega
 have:=B (A.length-m) (by omega);rwa [show m+(A.length-m)=A.length by omega] at this
end
section
theorem nl {l:List Cl}:cN l=true↔1≤l.length∧l.length≤6∧(∀ c∈l,fr c.name=true∧(c.kind=1∨c.kind=2))∧(l.map (·.name)).Nodup:=by
 unfold cN;simp only[Bool.and_eq_true,decide_eq_true_eq,List.all_eq_true];constructor
 ·rintro ⟨⟨M,J⟩,O⟩
  have A:∀ i (h:i<l.length),(fr l[i].name=true∧(l[i].kind=1∨l[i].kind=2))∧∀ k (B:k<i),l[k].name≠l[i].name:=fun i h=>by
   have:=O i (List.mem_range.2 h);unfold dV at this;rw[zI h] at this;simp only[Bool.and_eq_true,Bool.or_eq_true,decide_eq_true_eq,Bool.not_eq_true',List.any_eq_false,beq_iff_eq] at this;refine ⟨this.1,fun k B=>this.2 _ ?_⟩;rw[List.mem_take_iff_getElem];exact ⟨k,by omega,rfl⟩
  refine ⟨M,J,fun c hc=>?_,?_⟩
  ·obtain ⟨i,D,rfl⟩:=List.getElem_of_mem hc
   exact (A i D).1
  rw[List.nodup_iff_pairwise_ne,List.pairwise_iff_getElem];intro i k D B I;simp only[List.getElem_map];exact (A k (by simpa using B)).2 i I
 rintro ⟨M,J,O,U⟩;refine ⟨⟨M,J⟩,fun i D=>?_⟩;have h:=List.mem_range.1 D;unfold dV;rw[zI h];simp only[Bool.and_eq_true,Bool.or_eq_true,decide_eq_true_eq,Bool.not_eq_true',List.any_eq_false,beq_iff_eq];refine ⟨O _ (zH h),fun x Z=>?_⟩;rw[List.mem_take_iff_getElem] at Z;obtain ⟨k,B,rfl⟩:=Z;rw[List.nodup_iff_pairwise_ne,List.pairwise_iff_getElem] at U;have:=U k i (by simp;omega) (by simpa using h) (by omega);simpa using this
theorem oq (q:UInt8) (s:Bs):Lib.contains s [q]=decide (q∈s):=by
 have B:∀ (s:Bs),(∃ i,i≤s.length∧Lib.occAt s [q] i=true)↔q∈s:=by
  intro s
  induction s with
  | nil =>
   constructor
   ·rintro ⟨i,A,h⟩
    unfold Lib.occAt at h;simp[List.isPrefixOf] at h
   intro h;cases h
  | cons c s ih =>
   constructor
   ·rintro ⟨i,A,h⟩
    rcases i with _|i
    ·unfold Lib.occAt at h
     simp[List.isPrefixOf] at h;simp[h]
    exact List.mem_cons_of_mem _ (ih.1 ⟨i,by simpa using A,h⟩)
   intro h;rcases List.mem_cons.1 h with h|h
   ·exact ⟨0,zE _,by unfold Lib.occAt;simp[List.isPrefixOf,←h]⟩
   obtain ⟨i,A,D⟩:=ih.2 h;exact ⟨i+1,by simpa using A,D⟩
 unfold Lib.contains;rcases Lib.index_spec s [q] with ⟨J,I⟩|⟨i,J,I,O,_⟩
 ·rw[J]
  have:¬q∈s:=fun M=>by
   obtain ⟨i,A,D⟩:=(B s).2 M;rw[I i A] at D;cases D
  rw[decide_eq_false this];rfl
 rw[J,decide_eq_true ((B s).1 ⟨i,I,O⟩)];exact decide_eq_true (Int.natCast_nonneg _)
def bJ (ws:List Bs):Bs:=ws.flatMap (fun w=>32::w)++[32]
theorem jj (w:Bs) (ws:List Bs):bJ (w::ws)=32::(w++bJ ws):=by simp[bJ]
theorem rx (ws:List Bs):∃ r,bJ ws=32::r:=by
 cases ws with
 | nil=>exact ⟨[],rfl⟩
 | cons w ws=>exact ⟨_,jj w ws⟩
theorem po:∀ (s w r:Bs),(32:UInt8)∉s→(32:UInt8)∉w→(s++[32]).isPrefixOf (w++32::r)=true→s=w
 | [],[],_,_,_,_=>rfl
 | [],c::w,r,_,A,h=>by
  simp[List.isPrefixOf] at h;exact absurd (by simp[h]) A
 | c::s,[],r,D,_,h=>by
  simp[List.isPrefixOf] at h;exact absurd (by simp[h.1]) D
 | c::s,d::w,r,D,A,h=>by
  simp only[List.cons_append,List.isPrefixOf,Bool.and_eq_true,beq_iff_eq] at h;have:=po s w r (fun B=>D (List.mem_cons_of_mem _ B)) (fun B=>A (List.mem_cons_of_mem _ B)) h.2;rw[h.1,this]
theorem pp:∀ (s r:Bs),(s++[32]).isPrefixOf (s++32::r)=true
 | [],r=>by simp[List.isPrefixOf]
 | c::s,r=>by
  simp only[List.cons_append,List.isPrefixOf,beq_self_eq_true,Bool.true_and];exact pp s r
theorem uc {s:Bs} (I:(32:UInt8)∉s):∀ (ws:List Bs),(∀ w∈ws,(32:UInt8)∉w)→∀ i,Lib.occAt (bJ ws) (32::(s++[32])) i=true→s∈ws
 | [],_,i,h=>by
  unfold Lib.occAt at h;rcases i with _|i
  ·exfalso
   have h':(32::(s++[32])).isPrefixOf [32]=true:=h;simp only[List.isPrefixOf,Bool.and_eq_true] at h'
   cases s with
   | nil=>simp[List.isPrefixOf] at h'
   | cons c s=>simp[List.isPrefixOf] at h'
  have e:(bJ []).drop (i+1)=[]:=by simp[bJ]
  rw[e] at h;simp[List.isPrefixOf] at h
 | w::ws,D,i,h=>by
  have A:=D w (by simp);have ih:=uc I ws (fun u M=>D u (List.mem_cons_of_mem _ M));rw[jj] at h;rcases i with _|k
  ·obtain ⟨r,J⟩:=rx ws
   unfold Lib.occAt at h;rw[List.drop_zero,J] at h;simp only[List.isPrefixOf,Bool.and_eq_true] at h;rw[po s w r I A h.2];simp
  unfold Lib.occAt at h;rw[List.drop_succ_cons] at h;by_cases B:k<w.length
  ·exfalso
   rw[List.drop_append_of_le_length (by omega),List.drop_eq_getElem_cons B] at h;simp only[List.cons_append,List.isPrefixOf,Bool.and_eq_true,beq_iff_eq] at h;exact A (h.1 ▸ zH B)
  rw[List.drop_append,List.drop_of_length_le (by omega),List.nil_append] at h;exact List.mem_cons_of_mem _ (ih (k-w.length) h)
theorem ud {s:Bs}:∀ (ws:List Bs),s∈ws→∃ i,i≤(bJ ws).length∧Lib.occAt (bJ ws) (32::(s++[32])) i=true
 | [],h=>by cases h
 | w::ws,h=>by
  by_cases e:s=w
  ·subst e
   refine ⟨0,zE _,?_⟩;obtain ⟨r,B⟩:=rx ws;unfold Lib.occAt;rw[jj,List.drop_zero,B];simp only[List.isPrefixOf,beq_self_eq_true,Bool.true_and];exact pp s r
  obtain ⟨i,D,A⟩:=ud ws (by rcases List.mem_cons.1 h with h|h;exact absurd h e;exact h);refine ⟨w.length+i+1,by rw[jj];simp;omega,?_⟩;unfold Lib.occAt at A ⊢;rw[jj,List.drop_succ_cons,List.drop_append,List.drop_of_length_le (by omega),List.nil_append,show w.length+i-w.length=i by omega];exact A
theorem mC {s:Bs} (O:(32:UInt8)∉s) (ws:List Bs) (D:∀ w∈ws,(32:UInt8)∉w):Lib.contains (bJ ws) (32::(s++[32]))=decide (s∈ws):=by
 unfold Lib.contains;rcases Lib.index_spec (bJ ws) (32::(s++[32])) with ⟨h,B⟩|⟨i,h,B,M,_⟩
 ·rw[h]
  have:¬s∈ws:=fun I=>by
   obtain ⟨i,J,A⟩:=ud ws I;rw[B i J] at A;cases A
  rw[decide_eq_false this];rfl
 rw[h,decide_eq_true (uc O ws D i M)];exact decide_eq_true (Int.natCast_nonneg _)
theorem lI (s:Bs):Lib.contains s [32]=decide ((32:UInt8)∈s):=oq 32 s
def lJ (s:Bs) (ws:List Bs):Bool:=!s.isEmpty && !decide ((32:UInt8)∈s)&&decide (s∈ws)
theorem qu {s:Bs} {ws:List Bs} (A:∀ w∈ws,w≠[]∧(32:UInt8)∉w):lJ s ws=decide (s∈ws):=by
 unfold lJ;by_cases h:s∈ws
 ·obtain ⟨D,B⟩:=A s h
  have e:s.isEmpty=false:=by
   cases s with
   | nil=>exact absurd rfl D
   | cons c s=>rfl
  rw[e,decide_eq_false B,decide_eq_true h];rfl
 rw[decide_eq_false h];simp
end
section
open Go.RowKit
structure uz (w:World) (t:Tb) (A B:Option Addr):Prop where
 cols:Rd w [] 2 A t.cols.length (ah t.cols)
 rows:nN w [] B t.rows
 ln:t.cols.length≤4294967296
 lm:t.rows.length≤4294967296
 lr:∀ r∈t.rows,r.length≤4294967296
theorem uz.quiet {w w':World} {t:Tb} {A B:Option Addr} (h:uz w t A B) (D:aa [] w w'):uz w' t A B:=⟨h.cols.keep D,h.rows.keep D,h.ln,h.lm,h.lr⟩
end
section
open Go.RowKit
attribute [local go_sem] ag ab ae af
def uB (w:World) (B b:Nat) (l:Bs):Prop:=Lib.IsBuilder 126 5 B b (Lib.byteCells l) w
theorem uB.alloc {w:World} {B b:Nat} {l:Bs} (h:uB w B b l) (o:Obj):uB (w.alloc o) B b l:=by
 have A:∀ p,Lib.BuilderAt 126 5 B b p (Lib.byteCells l) w→Lib.BuilderAt 126 5 B b p (Lib.byteCells l) (w.alloc o):=fun p I=>by
  obtain ⟨M,v,D,O,J⟩:=I;exact ⟨M,v,(Lib.alloc_old w o b (Array.getElem?_eq_some_iff.1 D).1).trans D,O.alloc o,J⟩
 rcases h with h|h
 ·exact .inl (A _ h)
 exact .inr (A _ h)
theorem uB.keep {w w':World} {B b:Nat} {l:Bs} (h:uB w B b l) (D:aa [] w w'):uB w' B b l:=by
 have A:∀ p,Lib.BuilderAt 126 5 B b p (Lib.byteCells l) w→Lib.BuilderAt 126 5 B b p (Lib.byteCells l) w':=fun p J=>by
  obtain ⟨O,v,I,U,M⟩:=J;exact ⟨O,v,(D.block b (Array.getElem?_eq_some_iff.1 I).1 (by simp)).trans I,bh U D (by simp),M⟩
 rcases h with h|h
 ·exact .inl (A _ h)
 exact .inr (A _ h)
theorem uB.lt {w:World} {B b:Nat} {l:Bs} (h:uB w B b l):b<w.heap.size:=by
 rcases h with ⟨_,v,A,_⟩|⟨_,v,A,_⟩
 ·exact (Array.getElem?_eq_some_iff.1 A).1
 exact (Array.getElem?_eq_some_iff.1 A).1
theorem uB.drew {w:World} {B b:Nat} {l:Bs} (h:uB w B b l):uB w.drew B b l:=h
end
section
open Go.RowKit
def fD (ops:Array Oper):Bool:=(List.range ops.size).all fun i=>((ops[i]?).map fun o=>o.after.all fun e=>decide (e.on<i)).getD false
theorem fZ {ops:Array Oper} (h:fD ops=true) {i:Nat} {o:Oper} (B:ops[i]? = some o) {e:Edge} (D:e∈o.after):e.on<i:=by
 have I:i<ops.size:=(Array.getElem?_eq_some_iff.1 B).1;have A:=List.all_eq_true.1 h i (List.mem_range.2 I);rw[B] at A;simp only[Option.map_some,Option.getD_some,Array.all_eq_true_iff_forall_mem] at A;simpa using A e D
def eE (L:Nat→Bool) (n:Nat):Nat:=(List.range n).countP fun i=> !L i
theorem lS {L:Nat→Bool} {n:Nat} (h:eE L n=0):∀ i,i<n→L i=true:=by
 intro i B;have A:=List.countP_eq_zero.1 h i (List.mem_range.2 B);simpa using A
def dN (L:Nat→Bool) (i:Nat):Nat→Bool:=fun j=>if j=i then true else L j
theorem iu {L:Nat→Bool} {i:Nat} (A:L i=false):∀ {n:Nat},i<n→eE (dN L i) n+1=eE L n
 | 0,h=>absurd h (by omega)
 | n+1,h=>by
  have e:∀ M:Nat→Bool,eE M (n+1)=eE M n+if M n then 0 else 1:=fun M=>by
   unfold eE;rw[List.range_succ,List.countP_append,List.countP_singleton];cases J:M n<;>simp
  rw[e,e];by_cases B:i=n
  ·subst B
   have e2:eE (dN L i) i=eE L i:=by
    unfold eE;refine List.countP_congr fun x I=>?_
    have:=List.mem_range.1 I;unfold dN;rw[if_neg (by omega)]
   rw[e2,A];simp[dN]
  have ih:=iu A (n:=n) (by omega);have D:dN L i n=L n:=by unfold dN;rw[if_neg (fun h=>B h.symm)]
  rw[D];omega
def fh (ops:Array Oper) (h:Array Bool) (L:Nat→Bool):Prop:=h.size=ops.size∧∀ i,i<ops.size→h[i]? = some (L i)
theorem fh.set {ops:Array Oper} {A:Array Bool} {L:Nat→Bool} (h:fh ops A L) {i:Nat} (I:i<ops.size):fh ops (A.setIfInBounds i true) (dN L i):=by
 refine ⟨by rw[Array.size_setIfInBounds];exact h.1,fun j D=>?_⟩;rw[Array.getElem?_setIfInBounds];unfold dN;by_cases B:i=j
 ·subst B
  rw[if_pos rfl,if_pos (by rw[h.1];exact D),if_pos rfl]
 rw[if_neg B,if_neg (fun e=>B e.symm)];exact h.2 j D
theorem fh.get {ops:Array Oper} {A:Array Bool} {L:Nat→Bool} (h:fh ops A L) {i:Nat} (B:i<ops.size) (d:Bool):A.getD i d=L i:=by
 have:=h.2 i B;rw[Array.getD_eq_getD_getElem?,this];rfl
theorem cJ {ops:Array Oper} {A:Array Bool} {L:Nat→Bool} (hd:fD ops=true) (h:fh ops A L) (i:Nat) :
  i∈Region.ready .any ops A↔i<ops.size∧L i=false∧∀ o,ops[i]? = some o→∀ e∈o.after,Region.binds .any e=true→L e.on=true:=by
 unfold Region.ready;rw[List.mem_filter,List.mem_range];constructor
 ·rintro ⟨D,J⟩
  rw[Bool.and_eq_true,h.get D] at J;refine ⟨D,by simpa using J.1,fun o B e I O=>?_⟩;have M:=J.2;rw[B] at M;simp only[Option.map_some,Option.getD_some,Array.all_eq_true_iff_forall_mem] at M;have U:=M e I;rw[O,Bool.not_true,Bool.false_or,h.get (by have:=fZ hd B I;omega)] at U;exact U
 rintro ⟨D,J,M⟩;refine ⟨D,?_⟩;rw[Bool.and_eq_true,h.get D,J];refine ⟨rfl,?_⟩;obtain ⟨o,B⟩:∃ o,ops[i]? = some o:=⟨_,Array.getElem?_eq_getElem D⟩
 rw[B];simp only[Option.map_some,Option.getD_some,Array.all_eq_true_iff_forall_mem];intro e I
 cases O:Region.binds .any e with
 | false=>rfl
 | true =>
  rw[Bool.not_true,Bool.false_or,h.get (by have:=fZ hd B I;omega)];exact M o B e I O
theorem lT {ops:Array Oper} {L:Nat→Bool} (hd:fD ops=true):∀ (i:Nat),i<ops.size→L i=false→∃ j,j<ops.size∧L j=false∧∀ o,ops[j]? = some o→∀ e∈o.after,Region.binds .any e=true→L e.on=true:=by
 intro i
 induction i using Nat.strongRecOn with
 | ind i ih =>
  intro U J;by_cases D:∃ o,ops[i]? = some o∧∃ e∈o.after,Region.binds .any e=true∧L e.on=false
  ·obtain ⟨o,A,e,B,_,M⟩:=D
   have h:=fZ hd A B;exact ih e.on h (by omega) M
  refine ⟨i,U,J,fun o A e B I=>?_⟩
  cases O:L e.on with
  | true=>rfl
  | false=>exact absurd ⟨o,A,e,B,I,O⟩ D
section
variable {P:Program} {ops:Array Oper} {Q:Exit→Act→World→Prop}
end
structure kq (ops:Array Oper) (v:Nat→Value) (L:Nat→Bool) (a0 a:Act):Prop where
 d:a.defers=a0.defers
 n:a.tmps.size=a0.tmps.size
 y:∀ i o k,ops[i]? = some o→o.dst=some k→L i=true→a.tmps.getD k undef=v i
 z:∀ k,(∀ i o,ops[i]? = some o→o.dst=some k→L i=false)→a.tmps.getD k undef=a0.tmps.getD k undef
def yQ (ops:Array Oper) (n:Nat):Bool:=(List.range ops.size).all fun i=>match (ops[i]?).bind (·.dst) with
 | none=>true
 | some k=>decide (k<n)&&(List.range ops.size).all fun j=>decide (j=i)||decide ((ops[j]?).bind (·.dst)≠some k)
theorem vS {ops:Array Oper} {n:Nat} (h:yQ ops n=true) {i:Nat} {o:Oper} {k:Nat} (D:ops[i]? = some o) (M:o.dst=some k):k<n∧∀ j B,ops[j]? = some B→B.dst=some k→j=i:=by
 have O:i<ops.size:=(Array.getElem?_eq_some_iff.1 D).1;have A:=List.all_eq_true.1 h i (List.mem_range.2 O);simp only[D,Option.bind_some,M] at A;rw[Bool.and_eq_true] at A;refine ⟨of_decide_eq_true A.1,fun j B I hk'=>?_⟩;have hj':j<ops.size:=(Array.getElem?_eq_some_iff.1 I).1;have J:=List.all_eq_true.1 A.2 j (List.mem_range.2 hj');simp only[I,Option.bind_some,hk'] at J;simpa using J
theorem pD (t:Array Value) (d k:Nat) (u x:Value) (hd:d<t.size):(t.setIfInBounds d u).getD k x=if k=d then u else t.getD k x:=by
 rw[Array.getD_eq_getD_getElem?,Array.getD_eq_getD_getElem?,Array.getElem?_setIfInBounds];by_cases h:d=k
 ·subst h
  rw[if_pos rfl,if_pos hd,if_pos rfl];rfl
 rw[if_neg h,if_neg (fun e=>h e.symm)]
theorem kq.start (ops:Array Oper) (v:Nat→Value) (a:Act):kq ops v (fun _=>false) a a:=⟨rfl,rfl,(fun _ _ _ _ _ h=>by cases h),fun _ _=>rfl⟩
theorem kq.put {ops:Array Oper} {v:Nat→Value} {L:Nat→Bool} {a0 a:Act} {i:Nat} {o:Oper} (h:kq ops v L a0 a) (hb:yQ ops a0.tmps.size=true) (ho:ops[i]? = some o):kq ops v (dN L i) a0 (a.put o.dst (v i)):=by
 cases hd:o.dst with
 | none =>
  refine ⟨h.d,h.n,fun j J k D B O=>?_,fun k hz=>?_⟩
  ·refine h.y j J k D B ?_
   unfold dN at O;split at O
   ·rename_i e
    subst e;rw[ho] at D;cases D
    rw[hd] at B;cases B
   exact O
  refine h.z k fun j J D B=>?_
  have:=hz j J D B;unfold dN at this;split at this
  ·cases this
  exact this
 | some Z =>
  obtain ⟨U,M⟩:=vS hb ho hd;have I:(a.put (some Z) (v i)).tmps=a.tmps.setIfInBounds Z (v i):=rfl;refine ⟨h.d,by rw[I,Array.size_setIfInBounds];exact h.n,fun j J k D B O=>?_,fun k hz=>?_⟩
  ·rw[I,pD _ _ _ _ _ (by rw[h.n];exact U)]
   by_cases A:k=Z
   ·subst A
    rw[if_pos rfl,M j J D B]
   rw[if_neg A];refine h.y j J k D B ?_;unfold dN at O;split at O
   ·rename_i e
    subst e;rw[ho] at D;cases D
    rw[hd] at B;cases B
    exact absurd rfl A
   exact O
  rw[I,pD _ _ _ _ _ (by rw[h.n];exact U)];by_cases A:k=Z
  ·have:=hz i o ho (by rw[A];exact hd)
   unfold dN at this;rw[if_pos rfl] at this;cases this
  rw[if_neg A];refine h.z k fun j J D B=>?_
  have:=hz j J D B;unfold dN at this;split at this
  ·cases this
  exact this
theorem kq.old {ops:Array Oper} {v:Nat→Value} {L:Nat→Bool} {B a:Act} (h:kq ops v L B a) (k:Nat) (A:(ops.any fun o=>decide (o.dst=some k))=false):a.tmps.getD k undef=B.tmps.getD k undef :=
 h.z k fun i o D hd=>by
  rw[Array.any_eq_false'] at A;exact absurd (decide_eq_true hd) (A o (Array.mem_of_getElem? D))
theorem kq.congr {ops:Array Oper} {v B:Nat→Value} {L:Nat→Bool} {A a:Act} (h:kq ops v L A a) (e:∀ i,L i=true→v i=B i):kq ops B L A a :=
 ⟨h.d,h.n,fun i o k J I D=>(h.y i o k J I D).trans (e i D),h.z⟩
def yR (ops:Array Oper) (v:Nat→Value) (h:Act) (k:Nat):Value:=match (List.range ops.size).find? fun i=>decide ((ops[i]?).bind (·.dst)=some k) with
 | some i=>v i
 | none=>h.tmps.getD k undef
theorem kq.fin {ops:Array Oper} {v:Nat→Value} {L:Nat→Bool} {A a:Act} (h:kq ops v L A a) (D:∀ i,i<ops.size→L i=true):a=⟨((List.range A.tmps.size).map (yR ops v A)).toArray,A.defers⟩:=by
 obtain ⟨t,d⟩:=a;have hd:d=A.defers:=h.d;have U:t.size=A.tmps.size:=h.n;subst hd;congr 1
 apply Array.ext
 ·simp[U]
 intro k O Z;simp only[List.getElem_toArray,List.getElem_map,List.getElem_range];have e:t[k]=t.getD k undef:=by rw[Array.getD_eq_getD_getElem?,Array.getElem?_eq_getElem O];rfl
 rw[e];unfold yR
 cases J:(List.range ops.size).find? fun i=>decide ((ops[i]?).bind (·.dst)=some k) with
 | some i =>
  have M:=List.find?_some J;have I:=List.mem_range.1 (List.mem_of_find?_eq_some J);rw[decide_eq_true_iff] at M;obtain ⟨o,B⟩:∃ o,ops[i]? = some o:=⟨_,Array.getElem?_eq_getElem I⟩
  rw[B,Option.bind_some] at M;exact h.y i o k B M (D i I)
 | none =>
  refine h.z k fun i o B hd=>?_
  have I:i<ops.size:=(Array.getElem?_eq_some_iff.1 B).1;have:=List.find?_eq_none.1 J i (List.mem_range.2 I);rw[B,Option.bind_some,hd] at this;simp at this
def vT (C:Nat→Prop):Nat→Prop
 | 0=>True
 | n+1=>vT C n∧C n
theorem vT.at {C:Nat→Prop}:∀ {n:Nat},vT C n→∀ i,i<n→C i
 | 0,_,i,A=>absurd A (by omega)
 | n+1,h,i,A=>by
  by_cases e:i=n
  ·subst e;exact h.2
  exact vT.at h.1 i (by omega)
def fi (ops:Array Oper) (j i:Nat):Bool:=((ops[j]?).map fun o=>o.after.any fun e=>Region.binds .any e&&decide (e.on=i)).getD false
def wN (ops:Array Oper) (n:Nat):Bool :=
 decide (n<ops.size)&&((List.range n).all fun i=>((ops[i]?).map fun o=>match o.guard with
  | none=>true
  | some (j,_)=>decide (j<n)).getD false)&&((List.range n).all fun i=>(List.range (n+1)).any fun j=>decide (i<j)&&fi ops j i)&&(List.range ops.size).all fun t=>decide (t≤n)||fi ops t (t-1)
theorem fj {ops:Array Oper} {j i:Nat} (h:fi ops j i=true):∃ o,ops[j]? = some o∧∃ e∈o.after,Region.binds .any e=true∧e.on=i:=by
 unfold fi at h
 cases B:ops[j]? with
 | none=>rw[B] at h;cases h
 | some o =>
  rw[B] at h;simp only[Option.map_some,Option.getD_some] at h;obtain ⟨e,D,A⟩:=Array.any_eq_true'.1 h;rw[Bool.and_eq_true,decide_eq_true_iff] at A;exact ⟨o,rfl,e,D,A.1,A.2⟩
section
variable {P:Program} {ops hd:Array Oper} {Q:Exit→Act→World→Prop} {n:Nat}
theorem uF {L:Nat→Bool} (O:∀ i,i<n→∃ j,j≤n∧i<j∧fi ops j i=true) (A:∀ j o,ops[j]? = some o→L j=true→∀ e∈o.after,Region.binds .any e=true→L e.on=true)
  (Z:∀ o,ops[n]? = some o→∀ e∈o.after,Region.binds .any e=true→L e.on=true):∀ (d i:Nat),n-i=d→i<n→L i=true:=by
 intro d
 induction d using Nat.strongRecOn with
 | ind d ih =>
  intro i hd U;obtain ⟨j,hj,J,M⟩:=O i U;obtain ⟨o,D,e,I,B,rfl⟩:=fj M;by_cases h:j=n
  ·subst h
   exact Z o D e I B
  exact A j o D (ih (n-j) (by omega) j rfl (by omega)) e I B
theorem gz (B:fD ops=true) (hc:∀ t,t<ops.size→n<t→fi ops t (t-1)=true):∀ (l:List Oper) (k:Nat) (L:Nat→Bool) (A:Array Bool) (a:Act) (w:World),n≤k→(∀ j,l[j]? = ops[k+j]?)→fh ops A L→(∀ i,i<k→L i=true)→(∀ i,k≤i→L i=false)→wpList P ops Q l a w→wpAny P .any ops Q l.length A a w
 | [],k,L,A,a,w,_,M,I,D,J,h=>by
  refine ⟨List.eq_nil_iff_forall_not_mem.2 fun i hi=>?_,h⟩;have U:=(cJ B I i).1 hi;have hk:ops.size≤k:=by
   have:=M 0;simp at this;exact this
  rw[D i (by omega)] at U;exact absurd U.2.1 (by decide)
 | o::l,k,L,A,a,w,aA,M,I,D,J,h=>by
  have h0:ops[k]? = some o:=by simpa using (M 0).symm
  have hk:k<ops.size:=(Array.getElem?_eq_some_iff.1 h0).1;refine ⟨fun U=>?_,fun i hi=>?_⟩
  ·have:k∈Region.ready .any ops A:=(cJ B I k).2 ⟨hk,J k (zz _),fun o' ho' e he _=>D _ (fZ B ho' he)⟩
   rw[U] at this;cases this
  obtain ⟨g1,g2,g3⟩:=(cJ B I i).1 hi;have ad:i=k:=by
   rcases Nat.lt_trichotomy i k with O|O|O
   ·rw[D i O] at g2;cases g2
   ·exact O
   obtain ⟨o',ho',e,he,hb,Z⟩:=fj (hc i g1 (by omega));have:=g3 o' ho' e he hb;rw[Z,J (i-1) (by omega)] at this;cases this
  subst ad;have hw:wpOp P ops Q i (wpList P ops Q l) a w:=by unfold wpOp;simp only[h0];exact h
  refine wpOp_mono (fun a' w' h'=>gz B hc l (i+1) (dN L i) _ a' w' (by omega) (fun j=>by have:=M (j+1);simpa[Nat.add_assoc,Nat.add_comm 1 j] using this) (I.set g1) (fun j hj=>?_) (fun j hj=>?_) h') hw
  ·unfold dN
   by_cases e:j=i
   ·rw[if_pos e]
   rw[if_neg e];exact D j (by omega)
  unfold dN;rw[if_neg (by omega)];exact J j (by omega)
theorem nD (A:∀ i,i<n→hd[i]? = ops[i]?) {o:Oper} (B:∀ j b,o.guard=some (j,b)→j<n) (t:Array Value):Region.wanted o (yielded hd t)=Region.wanted o (yielded ops t):=by
 unfold Region.wanted
 cases h:o.guard with
 | none=>rfl
 | some p =>
  obtain ⟨j,b⟩:=p;simp only;unfold yielded;rw[A j (B j b h)]
theorem lU {C:World→Prop} {Qa:Act→Prop} {tl:List Oper} (B:fD ops=true) (Z:fD hd=true) (a1:hd.size=n) (ad:n<ops.size) (D:∀ i,i<n→hd[i]? = ops[i]?) (U:∀ j,tl[j]? = ops[n+j]?)
  (hg:∀ i o,i<n→ops[i]? = some o→∀ j b,o.guard=some (j,b)→j<n) (hs:∀ i,i<n→∃ j,j≤n∧i<j∧fi ops j i=true) (hc:∀ t,t<ops.size→n<t→fi ops t (t-1)=true)
  (hQ:∀ a w,C w→Qa a→wpList P ops Q tl a w):∀ (f:Nat) (L:Nat→Bool) (lh A:Array Bool) (a:Act) (w:World),fh ops A L→fh hd lh L→(∀ i,n≤i→L i=false) →
  (∀ j o,ops[j]? = some o→L j=true→∀ e∈o.after,Region.binds .any e=true→L e.on=true)→eE L n=f→C w→wpAnyQ P .any hd C Qa f lh a→wpAny P .any ops Q (f+tl.length) A a w
 | 0,L,lh,A,a,w,hA,hB,hT,M,hf,hw,h=>by
  rw[Nat.zero_add];exact gz B hc tl n L A a w (zz _) U hA (lS hf) hT (hQ a w hw h.2)
 | f+1,L,lh,A,a,w,hA,hB,hT,M,hf,hw,h=>by
  have a3:∃ i,i<n∧L i=false:=by
   by_cases hx:∃ i,i<n∧L i=false
   ·exact hx
   exfalso
   have:eE L n=0:=by
    unfold eE;rw[List.countP_eq_zero];intro i hi;have:=List.mem_range.1 hi
    cases hl:L i with
    | true=>simp
    | false=>exact absurd ⟨i,this,hl⟩ hx
   omega
  obtain ⟨i0,a0,O⟩:=a3;rw[show f+1+tl.length=(f+tl.length)+1 by omega];refine ⟨fun hr=>?_,fun i hi=>?_⟩
  ·obtain ⟨j,hj⟩:=lT B i0 (by omega) O
   have:=(cJ B hA j).2 hj;rw[hr] at this;cases this
  obtain ⟨g1,g2,g3⟩:=(cJ B hA i).1 hi;have I:i<n:=by
   rcases Nat.lt_trichotomy i n with hh|hh|hh
   ·exact hh
   ·subst hh
    have:=uF hs M g3 _ i0 rfl a0;rw[O] at this;cases this
   obtain ⟨o',ho',e,he,hb,aA⟩:=fj (hc i g1 (by omega));have:=g3 o' ho' e he hb;rw[aA,hT (i-1) (by omega)] at this;cases this
  have a2:i∈Region.ready .any hd lh:=(cJ Z hB i).2 ⟨by omega,g2,fun o J=>g3 o (by rw[←D i I];exact J)⟩;have hq:=h.2 i a2;have a4:=iu g2 I;have H:wpOp P hd Q i (fun a' w'=>wpAny P .any ops Q (f+tl.length) (A.setIfInBounds i true) a' w') a w:=wpOp_of_qOp hw (fun a' w' hw' h'=>lU B Z a1 ad D U hg hs hc hQ f (dN L i) _ _ a' w' (hA.set g1) (hB.set (by omega)) (fun j hj=>by unfold dN;rw[if_neg (by omega)];exact hT j hj) (fun j o J hL e he hb=>by
   unfold dN at hL ⊢;split
   ·rfl
   split at hL
   ·rename_i e1;subst e1;exact g3 o J e he hb
   exact M j o J hL e he hb) (by omega) hw' h') hq
  unfold wpOp at H ⊢;rw[D i I] at H
  cases J:ops[i]? with
  | none=>rw[J] at H;exact H
  | some o =>
   rw[J] at H;simp only at H ⊢;rw[nD D (hg i o I J)] at H;exact H
theorem kr {id:Nat} {a:Act} {w:World} {l:List Oper} (n:Nat) (hm:P.follows .mixedOrders=true) (U:fD l.toArray=true) (M:fD (l.take n).toArray=true) (Z:Region.lexB .any (l.take n).toArray=true) (J:wN l.toArray n=true)
  (h:wpQuiet P (l.take n).toArray (fun w'=>∃ p:KW w,w'=p.w) (fun I=>∀ w',aa [] w w'→wpList P l.toArray Q (l.drop n) I w') (l.take n) a):(Code.region id l.toArray true).wp P Q a w:=by
 unfold wN at J;simp only[Bool.and_eq_true,decide_eq_true_iff] at J;obtain ⟨⟨⟨h1,h2⟩,h3⟩,h4⟩:=J;have aA:n<l.length:=by simpa using h1
 have O:(l.take n).toArray.size=n:=by simp;omega
 simp only[Region.lexB,Bool.and_eq_true] at Z;have hq:=wpAnyQ_lex (C:=fun w'=>∃ p:KW w,w'=p.w) (md:= .any) Z.1 (l.take n) 0 (Array.replicate (l.take n).toArray.size false) a (by simp) (by simpa using Z.2) h;refine wp_region_any hm ?_;have B:=lU (P:=P) (Q:=Q) (ops:=l.toArray) (hd:=(l.take n).toArray) (n:=n) (C:=fun w'=>∃ p:KW w,w'=p.w) (Qa:=fun I=>∀ w',aa [] w w'→wpList P l.toArray Q (l.drop n) I w') (tl:=l.drop n) U M O h1 (fun i A=>by simp[A]) (fun j=>by simp) (fun i o A ho j b hb=>?_) (fun i A=>?_) (fun t ht ad=>?_) (fun I w' ⟨p,hp⟩ hk=>hp ▸ hk p.w p.k) n (fun _=>false) (Array.replicate (l.take n).toArray.size false) (Array.replicate l.toArray.size false) a w.drew ⟨by simp,fun i A=>by rw[Array.getElem?_replicate,if_pos A]⟩ ⟨by simp,fun i A=>by rw[Array.getElem?_replicate,if_pos A]⟩ (fun _ _=>rfl) (fun _ _ _ h=>by cases h) (by unfold eE;simp) ⟨⟨w.drew,(zN [] w).drew⟩,rfl⟩ (by
   have e:(l.take n).length=n:=by simp;omega
   rwa [e] at hq)
 ·have e:n+(l.drop n).length=l.toArray.size:=by simp;omega
  rw[e] at B;exact B
 ·have:=List.all_eq_true.1 h2 i (List.mem_range.2 A)
  rw[ho] at this;simp only[Option.map_some,Option.getD_some,hb] at this;simpa using this
 ·obtain ⟨j,hj,D⟩:=List.any_eq_true.1 (List.all_eq_true.1 h3 i (List.mem_range.2 A))
  rw[Bool.and_eq_true,decide_eq_true_iff] at D;exact ⟨j,by have:=List.mem_range.1 hj;omega,D.1,D.2⟩
 have:=List.all_eq_true.1 h4 t (List.mem_range.2 ht);rw[Bool.or_eq_true,decide_eq_true_iff] at this;rcases this with h|h
 ·omega
 exact h
theorem lV {L:Nat→Bool} {n:Nat} (h:∀ i,i<n→L i=true):eE L n=0:=by
 unfold eE;rw[List.countP_eq_zero];intro i A;rw[h i (List.mem_range.1 A)];simp
theorem sM {L:Nat→Bool} (U:∀ i,0<i→i<n→∃ j,j≤n∧i<j∧fi ops j i=true) (A:∀ j o,ops[j]? = some o→L j=true→∀ e∈o.after,Region.binds .any e=true→L e.on=true)
  (hn:∀ o,ops[n]? = some o→∀ e∈o.after,Region.binds .any e=true→L e.on=true):∀ (d i:Nat),n-i=d→0<i→i<n→L i=true:=by
 intro d
 induction d using Nat.strongRecOn with
 | ind d ih =>
  intro i hd J Z;obtain ⟨j,hj,M,O⟩:=U i J Z;obtain ⟨o,D,e,I,B,rfl⟩:=fj O;by_cases h:j=n
  ·subst h
   exact hn o D e I B
  exact A j o D (ih (n-j) (by omega) j rfl (by omega) (by omega)) e I B
def yS (P:Program) (ops:Array Oper) (Q:Exit→Act→World→Prop) (C:World→Prop) (on:Oper) (tl:List Oper) (a:Act):Prop :=
 ∀ w,C w→∃ u w',(execOp a.eval on).run P w= .ok (.value u) w'∧C w'∧wpList P ops Q tl (a.put on.dst u) w'
theorem kc {C:World→Prop} {tl:List Oper} {o0 on:Oper} (B:fD ops=true) (aA:fD hd=true) (bm:hd.size=n) (bn:n+1<ops.size) (U:∀ i,i<n→hd[i]? = ops[i]?) (a7:∀ j,tl[j]? = ops[n+1+j]?)
  (hg:∀ i o,i<n→ops[i]? = some o→∀ j b,o.guard=some (j,b)→j<n) (hs:∀ i,0<i→i<n→∃ j,j≤n∧i<j∧fi ops j i=true) (hc:∀ t,t<ops.size→n<t→fi ops t (t-1)=true)
  (a6:0<n) (bl:fi ops (n+1) 0=true) (a0:ops[0]? = some o0) (a2:ops[n]? = some on) (a4:on.guard=none) (bk:o0.apart ops on=true) (a5:o0.guard=none) (bj:∀ (a:Act) (w:World),∃ u,(execOp a.eval o0).run P w= .ok (.value u) w) (bd:∀ cs b,o0.op≠ .select cs b) (bb:∀ cs b,on.op≠ .select cs b) :
  ∀ (f:Nat) (L:Nat→Bool) (lh A:Array Bool) (a:Act) (w:World),fh ops A L→fh hd lh L→(∀ i,n≤i→L i=false) →
  (∀ j o,ops[j]? = some o→L j=true→∀ e∈o.after,Region.binds .any e=true→L e.on=true)→eE L n=f→C w→wpAnyQ P .any hd C (yS P ops Q C on tl) f lh a→wpAny P .any ops Q (f+(tl.length+1)) A a w
 | 0,L,lh,A,a,w,hA,hB,hT,a8,hf,hw,h=>by
  rw[Nat.zero_add];refine gz B hc (on::tl) n L A a w (zz _) (fun j=>?_) hA (lS hf) hT ?_
  ·cases j with
   | zero=>simpa using a2.symm
   | succ j=>simpa[Nat.add_assoc,Nat.add_comm 1 j] using a7 j
  obtain ⟨u,w',hr,hw',hk⟩:=h.2 w hw;unfold wpList;rw[if_pos (by unfold Region.wanted;rw[a4])];left
  unfold Oper.wp;rw[hr];exact hk
 | f+1,L,lh,A,a,w,hA,hB,hT,a8,hf,hw,h=>by
  have b1:∃ i,i<n∧L i=false:=by
   by_cases hx:∃ i,i<n∧L i=false
   ·exact hx
   exfalso
   have:=lV (L:=L) (n:=n) fun i hi=>by
    cases hl:L i with
    | true=>rfl
    | false=>exact absurd ⟨i,hi,hl⟩ hx
   omega
  obtain ⟨i0,bA,a1⟩:=b1;rw[show f+1+(tl.length+1)=(f+(tl.length+1))+1 by omega];refine ⟨fun hr=>?_,fun i hi=>?_⟩
  ·obtain ⟨j,hj⟩:=lT B i0 (by omega) a1
   have:=(cJ B hA j).2 hj;rw[hr] at this;cases this
  obtain ⟨g1,g2,g3⟩:=(cJ B hA i).1 hi;rcases Nat.lt_trichotomy i n with I|I|I
  ·have a3:i∈Region.ready .any hd lh:=(cJ aA hB i).2 ⟨by omega,g2,fun o M=>g3 o (by rw[←U i I];exact M)⟩
   have hq:=h.2 i a3;have b3:=iu g2 I;have H:wpOp P hd Q i (fun a' w'=>wpAny P .any ops Q (f+(tl.length+1)) (A.setIfInBounds i true) a' w') a w:=wpOp_of_qOp hw (fun a' w' hw' h'=>kc B aA bm bn U a7 hg hs hc a6 bl a0 a2 a4 bk a5 bj bd bb f (dN L i) _ _ a' w' (hA.set g1) (hB.set (by omega)) (fun j hj=>by unfold dN;rw[if_neg (by omega)];exact hT j hj) (fun j o M hL e O hb=>by
    unfold dN at hL ⊢;split
    ·rfl
    split at hL
    ·rename_i e1;subst e1;exact g3 o M e O hb
    exact a8 j o M hL e O hb) (by omega) hw' h') hq
   unfold wpOp at H ⊢;rw[U i I] at H
   cases M:ops[i]? with
   | none=>rw[M] at H;exact H
   | some o =>
    rw[M] at H;simp only at H ⊢;rw[nD U (hg i o I M)] at H;exact H
  ·subst I
   have J:=sM hs a8 g3;have Z:L 0=false:=by
    cases hl:L 0 with
    | false=>rfl
    | true =>
     have:L i0=true:=by
      rcases Nat.eq_zero_or_pos i0 with h0|h0
      ·rw[h0];exact hl
      exact J _ i0 rfl h0 bA
     rw[this] at a1;cases a1
   have bB:f=0:=by
    have h1:=iu Z a6;have h2:=lV (L:=dN L 0) (n:=i) fun j hj=>by
     unfold dN;split
     ·rfl
     exact J _ j rfl (by omega) hj
    omega
   subst bB;have a9:hd[0]? = some o0:=by rw[U 0 a6];exact a0
   have a3:0∈Region.ready .any hd lh:=(cJ aA hB 0).2 ⟨by omega,Z,fun o M e O _=>absurd (fZ aA M O) (by omega)⟩;obtain ⟨v,hy,-,hq⟩:=yieldsIn_of_qOp a9 (h.2 0 a3);obtain ⟨h1,h2,h3⟩:=Oper.apart_spec bk;obtain ⟨u,w',hr,hw',hk⟩:=hq w hw;rw[execOp_put on bb a o0.dst v h1] at hr;have ba:wpAny P .any ops Q (tl.length+1) (A.setIfInBounds i true) (a.put on.dst u) w':=by
    refine ⟨fun hr'=>?_,fun k hk'=>?_⟩
    ·have:0∈Region.ready .any ops (A.setIfInBounds i true):=(cJ B (hA.set g1) 0).2 ⟨by omega,by unfold dN;rw[if_neg (by omega)];exact Z,fun o M e O _=>absurd (fZ B M O) (by omega)⟩
     rw[hr'] at this;cases this
    obtain ⟨k1,k2,k3⟩:=(cJ B (hA.set g1) k).1 hk';have ad:∀ j,dN L i j=if j=i then true else L j:=fun _=>rfl
    have bo:k=0:=by
     rcases Nat.eq_zero_or_pos k with h0|h0
     ·exact h0
     exfalso
     rcases Nat.lt_trichotomy k i with hh|hh|hh
     ·rw[ad,if_neg (by omega),J _ k rfl h0 hh] at k2
      cases k2
     ·rw[ad,if_pos hh] at k2
      cases k2
     by_cases hk1':k=i+1
     ·subst hk1'
      obtain ⟨o',ho',e,O,hb,D⟩:=fj bl;have:=k3 o' ho' e O hb;rw[D,ad,if_neg (by omega),Z] at this;cases this
     obtain ⟨o',ho',e,O,hb,D⟩:=fj (hc k k1 hh);have:=k3 o' ho' e O hb;rw[D,ad,if_neg (by omega),hT (k-1) (by omega)] at this;cases this
    subst bo;have e1:=execOp_put (ops:=ops) o0 bd a on.dst u h3;have b0:Region.wanted o0 (yielded hd a.tmps)=true:=by unfold Region.wanted;rw[a5]
    obtain ⟨x,hx⟩:=bj a w';have bq:x=v:=by
     rcases hy with ⟨_,hy⟩|⟨hy,_⟩
     ·have:=hy w' hw'
      unfold Oper.quietAt at this;rw[hx] at this;exact this.2
     rw[b0] at hy;cases hy
    subst bq;unfold wpOp;rw[a0];simp only;rw[if_pos (by unfold Region.wanted;rw[a5])];left
    unfold Oper.wp;rw[e1,hx];show wpAny P .any ops Q tl.length _ ((a.put on.dst u).put o0.dst x) w';rw[←Act.put_comm a x u h2];exact gz B hc tl (i+1) (dN (dN L i) 0) _ _ w' (by omega) a7 ((hA.set g1).set (by omega)) (fun j hj=>by
     unfold dN;split
     ·rfl
     ·split
      ·rfl
      exact J _ j rfl (by omega) (by omega)) (fun j hj=>by
     unfold dN;rw[if_neg (by omega),if_neg (by omega)];exact hT j (by omega)) hk
   unfold wpOp;rw[a2];simp only;rw[if_pos (by unfold Region.wanted;rw[a4])];left
   unfold Oper.wp;rw[hr];rw[show 0+(tl.length+1)=tl.length+1 by omega];exact ba
  exfalso
  obtain ⟨o',ho',e,O,hb,D⟩:=fj (hc i g1 (by omega));have:=g3 o' ho' e O hb;rw[D,hT (i-1) (by omega)] at this;cases this
def qF (ops:Array Oper) (n:Nat):Bool :=
 decide (n+1<ops.size)&&decide (0<n)&&((List.range n).all fun i=>((ops[i]?).map fun o=>match o.guard with
  | none=>true
  | some (j,_)=>decide (j<n)).getD false)&&((List.range n).all fun i=>decide (i=0)||(List.range (n+1)).any fun j=>decide (i<j)&&fi ops j i)&&((List.range ops.size).all fun t=>decide (t≤n)||fi ops t (t-1))&&fi ops (n+1) 0
theorem jO {id:Nat} {a:Act} {w:World} {l:List Oper} (n:Nat) (o0 on:Oper) (hm:P.follows .mixedOrders=true) (a2:fD l.toArray=true) (ad:fD (l.take n).toArray=true) (hB:Region.lexB .any (l.take n).toArray=true) (hT:qF l.toArray n=true)
  (M:l[0]? = some o0) (U:l[n]? = some on) (a3:on.guard=none) (aA:o0.apart l.toArray on=true) (a4:o0.guard=none) (a0:∀ (a:Act) (w:World),∃ u,(execOp a.eval o0).run P w= .ok (.value u) w) (Z:∀ cs b,o0.op≠ .select cs b) (O:∀ cs b,on.op≠ .select cs b)
  (h:wpQuiet P (l.take n).toArray (fun w'=>∃ p:KW w,w'=p.w) (fun J=>∀ w',aa [] w w'→∃ u A,(execOp J.eval on).run P w'= .ok (.value u) A∧aa [] w A∧wpList P l.toArray Q (l.drop (n+1)) (J.put on.dst u) A) (l.take n) a):(Code.region id l.toArray true).wp P Q a w:=by
 unfold qF at hT;simp only[Bool.and_eq_true,decide_eq_true_iff] at hT;obtain ⟨⟨⟨⟨⟨h1,h1'⟩,h2⟩,h3⟩,h4⟩,h5⟩:=hT;have a6:n+1<l.length:=by simpa using h1
 have a1:(l.take n).toArray.size=n:=by simp;omega
 simp only[Region.lexB,Bool.and_eq_true] at hB;have e0:(fun J=>∀ w',aa [] w w'→∃ u A,(execOp J.eval on).run P w'= .ok (.value u) A∧aa [] w A∧wpList P l.toArray Q (l.drop (n+1)) (J.put on.dst u) A)=yS P l.toArray Q (fun w'=>∃ p:KW w,w'=p.w) on (l.drop (n+1)):=by
  funext J
  refine propext ⟨fun h w' ⟨p,e⟩=>?_,fun h w' k=>?_⟩
  ·obtain ⟨u,A,g1,g2,g3⟩:=h w' (e ▸ p.k)
   exact ⟨u,A,g1,⟨⟨A,g2⟩,rfl⟩,g3⟩
  obtain ⟨u,A,g1,⟨p,e⟩,g3⟩:=h w' ⟨⟨w',k⟩,rfl⟩;exact ⟨u,A,g1,e ▸ p.k,g3⟩
 rw[e0] at h;have hq:=wpAnyQ_lex (C:=fun w'=>∃ p:KW w,w'=p.w) (md:= .any) hB.1 (l.take n) 0 (Array.replicate (l.take n).toArray.size false) a (by simp) (by simpa using hB.2) h;refine wp_region_any hm ?_;have D:=kc (P:=P) (Q:=Q) (ops:=l.toArray) (hd:=(l.take n).toArray) (n:=n) (C:=fun w'=>∃ p:KW w,w'=p.w) (tl:=l.drop (n+1)) (o0:=o0) (on:=on) a2 ad a1 h1 (fun i B=>by simp[B]) (fun j=>by simp) (fun i o B ho j b hb=>?_) (fun i a7 B=>?_) (fun t ht a5=>?_) h1' h5 (by simpa using M) (by simpa using U) a3 aA a4 a0 Z O n (fun _=>false) (Array.replicate (l.take n).toArray.size false) (Array.replicate l.toArray.size false) a w.drew ⟨by simp,fun i B=>by rw[Array.getElem?_replicate,if_pos B]⟩ ⟨by simp,fun i B=>by rw[Array.getElem?_replicate,if_pos B]⟩ (fun _ _=>rfl) (fun _ _ _ h=>by cases h) (by unfold eE;simp) ⟨⟨w.drew,(zN [] w).drew⟩,rfl⟩ (by
   have e:(l.take n).length=n:=by simp;omega
   rwa [e] at hq)
 ·have e:n+((l.drop (n+1)).length+1)=l.toArray.size:=by simp;omega
  rw[e] at D;exact D
 ·have:=List.all_eq_true.1 h2 i (List.mem_range.2 B)
  rw[ho] at this;simp only[Option.map_some,Option.getD_some,hb] at this;simpa using this
 ·have:=List.all_eq_true.1 h3 i (List.mem_range.2 B)
  rw[Bool.or_eq_true,decide_eq_true_iff] at this;rcases this with h|h
  ·omega
  obtain ⟨j,hj,I⟩:=List.any_eq_true.1 h;rw[Bool.and_eq_true,decide_eq_true_iff] at I;exact ⟨j,by have:=List.mem_range.1 hj;omega,I.1,I.2⟩
 have:=List.all_eq_true.1 h4 t (List.mem_range.2 ht);rw[Bool.or_eq_true,decide_eq_true_iff] at this;rcases this with h|h
 ·omega
 exact h
def zr (l:List Oper) (n:Nat):Bool:=fD l.toArray&&fD (l.take n).toArray&&Region.lexB .any (l.take n).toArray&&qF l.toArray n&&Region.noSelect l.toArray&&(match l[0]?,l[n]? with
 | some o0,some on=>on.guard.isNone&&o0.apart l.toArray on&&o0.guard.isNone&&(match o0.op with
  | .move _=>true
  | _=>false)
 | _,_=>false)
theorem cP {id:Nat} {a:Act} {w:World} {l:List Oper} {on:Oper} (n:Nat) (hm:P.follows .mixedOrders=true) (O:zr l n=true) (B:l[n]? = some on)
  (h:wpQuiet P (l.take n).toArray (fun w'=>∃ p:KW w,w'=p.w) (fun U=>∀ w',aa [] w w'→∃ u D,(execOp U.eval on).run P w'= .ok (.value u) D∧aa [] w D∧wpList P l.toArray Q (l.drop (n+1)) (U.put on.dst u) D) (l.take n) a):(Code.region id l.toArray true).wp P Q a w:=by
 unfold zr at O;simp only[Bool.and_eq_true] at O;obtain ⟨⟨⟨⟨⟨h1,h2⟩,h3⟩,h4⟩,h5⟩,J⟩:=O
 cases M:l[0]? with
 | none=>rw[M] at J;cases J
 | some o0 =>
  rw[M,B] at J;simp only[Bool.and_eq_true,Option.isNone_iff_eq_none] at J;obtain ⟨⟨⟨g1,g2⟩,g3⟩,Z⟩:=J;have A:=Region.noSelect_spec h5;refine jO n o0 on hm h1 h2 h3 h4 M B g1 g2 g3 (fun a w=>?_) (fun cs b=>A 0 o0 cs b (by simpa using M)) (fun cs b=>A n on cs b (by simpa using B)) h
  cases I:o0.op with
  | move x=>exact ⟨a.eval x,by simp[execOp,I]⟩
  | _=>rw[I] at Z;cases Z
end
end
section
def dI (i:Int):List Bs→List (Bs×Int)→List (Bs×Int)
 | [],m=>m
 | n::ns,m=>dI i ns ((n,i)::m)
def cV:List Jb→Nat→List (Bs×Int)→List (Bs×Int)
 | [],_,m=>m
 | j::h,i,m=>cV h (i+1) (dI i j.outs m)
def gB:List In→List (Bs×Int)→List (Bs×Int)
 | [],m=>m
 | x::l,m=>gB l ((x.name,-1)::m)
def nG (f:Fl):List (Bs×Int):=gB f.ins (cV f.jobs 0 [])
theorem ov (i:Int) (n:Bs) (ns:List Bs) (m:List (Bs×Int)):dI i (n::ns) m=dI i ns ((n,i)::m):=rfl
theorem pF (j:Jb) (h:List Jb) (i:Nat) (m:List (Bs×Int)):cV (j::h) i m=cV h (i+1) (dI i j.outs m):=rfl
theorem pG (x:In) (l:List In) (m:List (Bs×Int)):gB (x::l) m=gB l ((x.name,-1)::m):=rfl
def lW (m:List (Bs×Int)):List (Bs×Value):=m.map fun p=>(p.1,zW zX p.2)
theorem qG (p:Bs×Int) (m:List (Bs×Int)):lW (p::m)=(p.1,zW zX p.2)::lW m:=rfl
theorem sP (m:List (Bs×Int)):(lW m).length=m.length:=by simp[lW]
theorem qH (m:List (Bs×Int)) (n:Bs):(lW m).lookup n=(m.lookup n).map (Value.int .i64):=by
 induction m with
 | nil=>rfl
 | cons p m ih =>
  obtain ⟨a,b⟩:=p;rw[qG,List.lookup_cons,List.lookup_cons,ih];cases n==a<;>rfl
theorem ke (i:Int):∀ (l:List Bs) (m:List (Bs×Int)),(dI i l m).length=l.length+m.length
 | [],m=>by simp[dI]
 | n::l,m=>by rw[dI,ke i l];simp;omega
theorem gC (i:Int) (n:Bs):∀ (l:List Bs) (m:List (Bs×Int)),(dI i l m).lookup n=if n∈l then some i else m.lookup n
 | [],m=>by simp[dI]
 | a::l,m=>by
  rw[dI,gC i n l,gf];by_cases h:n∈l
  ·rw[if_pos h,if_pos (by simp[h])]
  rw[if_neg h];by_cases A:n=a
  ·rw[if_pos A,if_pos (by simp[A])]
  rw[if_neg A,if_neg (by simp[h,A])]
theorem kf (n:Bs):∀ (l:List In) (m:List (Bs×Int)),(gB l m).lookup n=if n∈l.map (·.name) then some (-1) else m.lookup n
 | [],m=>by simp[gB]
 | a::l,m=>by
  rw[gB,kf n l,gf];by_cases h:n∈l.map (·.name)
  ·rw[if_pos h,if_pos (by rw[List.map_cons];exact List.mem_cons_of_mem _ h)]
  rw[if_neg h];by_cases A:n=a.name
  ·rw[if_pos A,if_pos (by rw[List.map_cons,A];exact List.mem_cons_self ..)]
  rw[if_neg A,if_neg (by rw[List.map_cons,List.mem_cons];rintro (B|B);exact A B;exact h B)]
theorem lY:∀ (l:List Jb) (i:Nat) (m:List (Bs×Int)),(cV l i m).length=(l.flatMap (·.outs)).length+m.length
 | [],i,m=>by simp[cV]
 | j::l,i,m=>by rw[cV,lY l,ke,List.flatMap_cons,zF];omega
theorem kg (n:Bs):∀ (l:List Jb) (i:Nat) (m:List (Bs×Int)),(l.flatMap (·.outs)).Nodup→(cV l i m).lookup n=match l.findIdx? fun j=>j.outs.contains n with
  | some k=>some ((i+k:Nat):Int)
  | none=>m.lookup n
 | [],i,m,_=>by simp[cV]
 | j::l,i,m,h=>by
  rw[List.flatMap_cons,List.nodup_append] at h;rw[cV,kg n l (i+1) _ h.2.1,List.findIdx?_cons];by_cases A:n∈j.outs
  ·have I:j.outs.contains n=true:=by simpa using A
   rw[I,if_pos rfl];have B:(l.findIdx? fun j=>j.outs.contains n)=none:=by
    rw[List.findIdx?_eq_none_iff];intro x J;rw[Bool.eq_false_iff];intro D;exact h.2.2 n A n (List.mem_flatMap.2 ⟨x,J,by simpa using D⟩) rfl
   rw[B,gC,if_pos A];rfl
  have I:j.outs.contains n=false:=by rw[Bool.eq_false_iff];simpa using A
  rw[I,if_neg (by simp)]
  cases l.findIdx? fun j=>j.outs.contains n with
  | none=>simp[gC,A]
  | some k =>
   simp only[Option.map_some];congr 2
   omega
theorem qI {f:Fl} (h:(f.jobs.flatMap (·.outs)).Nodup) (n:Bs):(nG f).lookup n=if iV f n then some (-1) else (mh f n).map fun (k:Nat)=>(k:Int):=by
 unfold nG;rw[kf];by_cases A:n∈f.ins.map (·.name)
 ·rw[if_pos A,iW.2 A,if_pos rfl]
 have:iV f n=false:=by rw[Bool.eq_false_iff];exact fun h=>A (iW.1 h)
 rw[if_neg A,this,kg n f.jobs 0 [] h];show _=Option.map _ (List.findIdx? _ _)
 cases f.jobs.findIdx? fun j=>j.outs.contains n with
 | none=>rfl
 | some k=>simp
end
section
open Go.RowKit
def cX (w:World) (b k:Nat) (c:Bs→Nat):Prop:=∃ mv,cz zy 9 w b mv∧mv.length≤k∧∀ n,(mv.lookup n).getD (zW zX 0)=zW zX (c n:Int)
theorem cX.made (w:World):cX (w.alloc (.map #[] 0)) w.heap.size 0 fun _=>0:=⟨[],cz.made w,zz _,fun _=>rfl⟩
theorem cX.keep {L:List Nat} {w w':World} {b k:Nat} {c:Bs→Nat} (h:cX w b k c) (A:aa L w w') (I:b∉L):cX w' b k c:=by
 obtain ⟨mv,D,B⟩:=h;exact ⟨mv,D.keep A I,B⟩
theorem cX.lt {w:World} {b k:Nat} {c:Bs→Nat} (h:cX w b k c):b<w.heap.size:=by obtain ⟨_,h,_⟩:=h;exact h.lt
theorem cX.look {w:World} {b k:Nat} {c:Bs→Nat} (h:cX w b k c) (n:Bs) (D:n.length≤1000000):(Instr.lookup 116 (.map (some b)) (zQ (bs n)) false).run zy w= .ok (zW zX (c n:Int)) w:=by
 obtain ⟨mv,B,_,A⟩:=h;rw[←A n];exact cz.look0 B (T:=116) (E:=3) Tryz.underlying116 Tryz.underlying9 (by kernel_rfl) n (by simp only[maxLen];omega)
theorem cX.put {w:World} {b k:Nat} {c:Bs→Nat} (h:cX w b k c) (n:Bs) (Z:n.length≤1000000) (O:k≤1000000) (v:Nat):∃ w',(Instr.mapUpdate 116 (.map (some b)) (zQ (bs n)) (zW zX (v:Int))).run zy w= .ok () w'∧cX w' b (k+1) (fun x=>if x=n then v else c x)∧w.grownBy w' (some b):=by
 obtain ⟨mv,J,U,B⟩:=h;obtain ⟨w',M,I,D⟩:=cz.store J (T:=116) (E:=3) Tryz.underlying116 Tryz.underlying9 n (zW zX (v:Int)) (by simp only[maxLen];omega) (by simp only[maxLen];omega);refine ⟨w',M,⟨_,I,by simp;omega,fun x=>?_⟩,D⟩;rw[gf];show _=Value.int IntKind.i64 ((if x=n then v else c x:Nat):Int);by_cases A:x=n
 ·rw[if_pos A,if_pos A];rfl
 rw[if_neg A,if_neg A];exact B x
end
end Go.Proofs.YtpagiajlefejcaaGreatDoor
