/- Columns and values compared as wholes. slices.Equal at columns. Maps of integers to values of whatever kind, by run equations. No program in sight. Maps of texts to values of whatever kind, as lists of what was put (the last first): by run equations; how many there are; a range over one. No program in sight. A map of texts that stands in memory: its names and its values. No program in sight. Stable sorting as plain lists: merges, what their pieces are, one sort alone. No program in sight. The order by which ops.sorted sorts; plain. Structs of many cells that are boxed inside a region: loads and stores of all cells at once, by short words. No program in sight. Slices put behind one another: append of whatever slice, and a new row of zeros; no program in sight. errors.As at the target *api.Errno, where the error is nil or an api.Errno itself. api.Tell and plain.Place at nil and at an *api.At. Sorting by chunks: each sorted alone; neighbours merged; plain. The handle of the type error, out of a row's condition; a world in which it is laid. -/
import Derived.Test.YtecpeogejjibaaaGreatDoorEmoM1
import Derived.Maps.Own
import Derived.Maps.OwnSet
import Derived.Maps.RangeWalk
import Derived.Maps.Keyed
import Derived.Maps.Views
import Derived.Maps.Range
import Derived.Lib.Hide
import Derived.Laws.IdiomCopy
import Derived.Deep.MidRow
import Derived.Maps.AppendAt
import Derived.Lib.SlFresh
import Derived.Lib.AppendZeros
import Derived.Lib.AppendZerosOnto
import Derived.OwnWalk
import Derived.Test.YtecpeogejjibaaaGreatDoorProg
import Derived.LaidEql
import Derived.Stop.Asserts
import Derived.RowKitTokens
set_option linter.unusedSimpArgs false
set_option linter.unusedVariables false
set_option maxRecDepth 100000
set_option maxHeartbeats 16000000
namespace Go.Proofs.YtecpeogejjibaaaGreatDoor
open Go.Lib renaming hid → Fx
open _root_.Nat renaming le_refl → Fy, zero_le → FF
open _root_.List renaming length_append → Fz, length_cons → FG, length_take → FH
open Go.World renaming block_lt_of_cell? → FC
open aa renaming refl → FK
open ao renaming new → FL
open Go.Value renaming string → FM, slice → FN, pointer → FO, int → FR
open Go.Ending renaming returned → FP
open Go.Obj renaming cells → FQ
open Go.IntKind renaming i64 → FS
section
open Go.RowKit
attribute [local go_sem] ag ab ae af
theorem E8 (a b:Cl) (W:World):(binOp .neq 64 (.agg #[FM (bs a.name),FR FS a.kind]) (.agg #[FM (bs b.name),FR FS b.kind])).run Tryz.prog W= .ok (.bool (!decide (a=b))) W:=by
 have hd:decide (a=b)=(decide (a.name=b.name)&&decide (a.kind=b.kind)):=by
  obtain ⟨n,k⟩:=a;obtain ⟨I,J⟩:=b;rw[Bool.eq_iff_iff];simp
 rw[hd];simp[go_sem];by_cases h:a.name=b.name<;>by_cases D:a.kind=b.kind<;>simp[h,D,go_sem]
theorem Dj (a b:Vl) (W:World):(binOp .neq 46 (.agg #[FR FS a.kind,FR FS a.num,FM (bs a.word)]) (.agg #[FR FS b.kind,FR FS b.num,FM (bs b.word)])).run Tryz.prog W= .ok (.bool (!decide (a=b))) W:=by
 have hd:decide (a=b)=(decide (a.kind=b.kind)&&decide (a.num=b.num)&&decide (a.word=b.word)):=by
  obtain ⟨k,n,s⟩:=a;obtain ⟨M,J,N⟩:=b;rw[Bool.eq_iff_iff];simp[and_assoc]
 rw[hd];simp[go_sem];by_cases D:a.kind=b.kind<;>by_cases I:a.num=b.num<;>by_cases h:a.word=b.word<;>simp[D,I,h,go_sem]
theorem kh (l m:List Cl) (A B:Option Addr) (c d:Nat) (w:World) (hA:Rd w [] 2 A l.length (ai l)) (hB:Rd w [] 2 B m.length (ai m)) (hl:l.length≤4294967296) (hm:m.length≤4294967296) :
  Calls Tryz.prog 14 #[FN A l.length c,FN B m.length d] w fun e w'=>e=FP (.bool (decide (l=m)))∧aa [] w w':=by
 have HA:=Fx hA;have HB:=Fx hB;clear hA hB;by_cases D:l.length=m.length
 ·have t1:((l.length:Int) != (m.length:Int))=false:=by rw[D];simp
  have t2:(l.length != m.length)=false:=by rw[D];simp
  have HL:=Fx D;clear D;go_enter Tryz.func14,Tryz.ntmps14
  go_wp2;go_loopw [13] (fun i wr=>∃ n:Nat,n≤l.length∧i=FR FS n∧Hid (l.take n=m.take n)∧aa [] w wr) (fun i _=>l.length-(intOf i).toNat)
  case atStart=>exact ⟨0,FF _,rfl,by rw[List.take_zero,List.take_zero];exact rfl,FK _ _⟩
  obtain ⟨n,hn,rfl,ad,hk⟩:=hrel;by_cases O:n<l.length
  ·have J:n<m.length:=by rw[←HL.out];exact O
   obtain ⟨b,o,rfl,_,hb,hc⟩:=(HA.out.keep hk).open' (by omega) (by omega);obtain ⟨b2,o2,rfl,_,a0,Z⟩:=(HB.out.keep hk).open' (by omega) (by omega);have d1:=hc (n*2) _ (aN l n O).1;have d2:=hc (n*2+1) _ (aN l n O).2;have e1:=Z (n*2) _ (aN m n J).1;have e2:=Z (n*2+1) _ (aN m n J).2;rw[←Nat.add_assoc] at d2 e2;have aA:(0:Int)≤(n:Int):=by omega
   have a1:(n:Int)<(l.length:Int):=by omega
   have a2:(n:Int)<(m.length:Int):=by omega
   have U:l.take (n+1)=l.take n++[l[n]]:=List.take_succ_eq_append_getElem O;have N:m.take (n+1)=m.take n++[m[n]]:=List.take_succ_eq_append_getElem J;have M:l[n]≠m[n]→decide (l=m)=false:=fun h=>by
    rw[decide_eq_false_iff_not];rintro rfl;exact h rfl
   have hq:=E8 l[n] m[n];generalize l[n]=x at *;generalize m[n]=y at *;clear hc Z;by_cases I:x=y
   ·have hno':Hid (l.take (n+1)=m.take (n+1)):=Fx (by rw[U,N,ad.out,I])
    rw[decide_eq_true I] at hq;clear U N M I;go_wp2_with fail
    go_quiet (fail)
    go_wp2;go_roundw
    case rel=>exact ⟨n+1,by omega,by go_num,hno',hk.drewN _⟩
    case measure=>simp[intOf];omega
   have HD:=Fx (M I);rw[decide_eq_false I] at hq;clear U N M I;go_wp2_with fail
   go_quiet (fail)
   go_wp2;go_ret;exact ⟨by rw[HD.out];rfl,hk.drewN _⟩
  have av:Hid (decide (l=m)=true):=Fx (by
   have h:=ad.out;rw[List.take_of_length_le (by omega),List.take_of_length_le (by rw[←HL.out];omega)] at h;exact decide_eq_true h)
  go_wp2;go_ret;exact ⟨by rw[av.out];rfl,hk⟩
 have t1:((l.length:Int) != (m.length:Int))=true:=by rw[bne_iff_ne];omega
 have t2:(l.length != m.length)=true:=by rw[bne_iff_ne];exact D
 have HD:Hid (decide (l=m)=false):=Fx (by rw[decide_eq_false_iff_not];rintro rfl;exact D rfl);clear D;go_enter Tryz.func14,Tryz.ntmps14
 go_wp2;go_ret;exact ⟨by rw[HD.out];rfl,FK _ _⟩
end
section
open Go.RowKit Go.Maps
def mT (v:Value):Option (DataW Value×List MemPlace):=some (.held v,[])
def gn (P:Program) (K:TypeId) (w:World) (b n:Nat) (m:Int→Option Value):Prop :=
 ∃ D:DataW Value,w.ownsMap P K mT b n D∧∀ k:Int,(Lit.int .i64 k).wf=true→Maps.has D (.int .i64 k)=(m k).isSome∧∀ v,m k=some v→∀ z,D.atKey (.int .i64 k) z= .held v
section
variable {P:Program} {T K E:TypeId} {w w':World} {b n:Nat} {m:Int→Option Value}
theorem gn.lt (h:gn P K w b n m):b<w.heap.size:=by obtain ⟨D,h,_⟩:=h;exact h.lt
theorem gn.made (w:World):gn P K (w.alloc (.map #[] 0)) w.heap.size 0 fun _=>none :=
 ⟨_,World.ownsMap_made w _ _ _,fun k _=>⟨rfl,fun _ h=>by cases h⟩⟩
theorem gn.of_block (h:gn P K w b n m) (O:w'.heap[b]? = w.heap[b]?):gn P K w' b n m:=by
 obtain ⟨D,⟨J,I,N,U⟩,M⟩:=h;exact ⟨D,⟨J,I,O.trans N,U⟩,M⟩
theorem gn.keep {L:List Nat} (h:gn P K w b n m) (D:aa L w w') (I:b∉L):gn P K w' b n m:=h.of_block (D.block b h.lt I)
theorem gn.mono (h:gn P K w b n m) {n':Nat} (I:n≤n'):gn P K w b n' m:=by
 obtain ⟨D,J,M⟩:=h;exact ⟨D,J.mono I,M⟩
theorem gn.congr {D:Int→Option Value} (h:gn P K w b n m) (e:m=D):gn P K w b n D:=e ▸ h
theorem gn.look (h:gn P K w b n m) (hT:P.underlying T=some (.map K E)) (O:P.underlying K=some (.int .i64)) {z:Value} (hz:(zeroValue E).run P w= .ok z w) (k:Int) (M:(Lit.int .i64 k).wf=true) :
  (Instr.lookup T (.map (some b)) (.int .i64 k) false).run P w= .ok ((m k).getD z) w:=by
 obtain ⟨D,h1,U⟩:=h;have J:keyOf P K (.int .i64 k)=some (.int .i64 k):=keyOf_int_mk O M;obtain ⟨v,ps,I,N⟩:=h1.lookup (int_keyed O) hT hz (zd:= .held z) (zp:=[]) rfl J;rw[I];have hv':DataW.held v=D.atKey (.int .i64 k) (.held z):=by
  injection N with N;exact congrArg Prod.fst N
 cases Z:m k with
 | some u =>
  rw[(U k M).2 u Z] at hv';injection hv' with e;rw[e];rfl
 | none =>
  have h0:Maps.has D (.int .i64 k)=false:=by rw[(U k M).1,Z];rfl
  rw[atKey_of_not_has h0] at hv';injection hv' with e;rw[e];rfl
theorem gn.store (h:gn P K w b n m) (hT:P.underlying T=some (.map K E)) (Z:P.underlying K=some (.int .i64)) (k:Int) (v:Value) (hk:(Lit.int .i64 k).wf=true) (hn:n<maxLen) :
  ∃ w',(Instr.mapUpdate T (.map (some b)) (.int .i64 k) v).run P w= .ok () w'∧gn P K w' b (n+1) (fun x=>if x=k then some v else m x)∧w.grownBy w' (some b):=by
 obtain ⟨D,h1,h2⟩:=h;have N:keyOf P K (.int .i64 k)=some (.int .i64 k):=keyOf_int_mk Z hk;obtain ⟨w',J,h3,h4⟩:=h1.update (int_keyed Z) hT hn N (d:= .held v) (ps:=[]) rfl;have hm:=h1.isMap;refine ⟨w',J,⟨_,h3,fun x M=>?_⟩,h4⟩;by_cases O:x=k
 ·subst O
  simp only[if_pos];exact ⟨by rw[has_put_same hm (by trivial)];rfl,fun u U z=>by
   cases U
   rw[atKey_put_same hm (by trivial)]⟩
 have I:(Lit.int IntKind.i64 x)≠Lit.int .i64 k:=fun e=>O (by injection e)
 simp only[if_neg O];refine ⟨?_,fun u U z=>?_⟩
 ·rw[has_put_other I];exact (h2 x M).1
 rw[atKey_put_other I];exact (h2 x M).2 u U z
end
def mV {β:Type}:List (Bs×β)→Nat
 | []=>0
 | x::m=>if (m.lookup x.1).isSome then mV m else mV m+1
theorem cX {β:Type} {m:List (Bs×β)} {k:Bs}:(m.lookup k).isSome=true↔k∈m.map (·.1):=by
 induction m with
 | nil=>simp
 | cons x m ih =>
  obtain ⟨a,b⟩:=x;rw[List.lookup_cons];by_cases h:k=a
  ·subst h;simp
  have:(k==a)=false:=by simpa using h
  rw[this];simp[ih,h]
theorem ki {β:Type}:∀ {m:List (Bs×β)},(m.map (·.1)).Nodup→mV m=m.length
 | [],_=>rfl
 | x::m,h=>by
  rw[List.map_cons,List.nodup_cons] at h;have:¬(m.lookup x.1).isSome=true:=fun D=>h.1 (cX.1 D)
  rw[mV,if_neg this,ki h.2,FG]
def bI (P:Program) (S:TypeId) (w:World) (b:Nat) (m:List (Bs×Value)):Prop :=
 ∃ D:DataW Value,w.ownsMap P S mT b m.length D∧Maps.Tidy D∧Maps.size D=mV m∧∀ k:Bs,Maps.has D (.string k)=(m.lookup k).isSome∧∀ v,m.lookup k=some v→∀ z,D.atKey (.string k) z= .held v
section
variable {P:Program} {T S E:TypeId} {w w':World} {b:Nat} {m:List (Bs×Value)}
theorem bI.lt (h:bI P S w b m):b<w.heap.size:=by obtain ⟨D,h,_⟩:=h;exact h.lt
theorem bI.made (w:World):bI P S (w.alloc (.map #[] 0)) w.heap.size [] :=
 ⟨_,World.ownsMap_made w _ _ _,Maps.tidy_empty,rfl,fun k=>⟨rfl,fun _ h=>by cases h⟩⟩
theorem bI.of_block (h:bI P S w b m) (O:w'.heap[b]? = w.heap[b]?):bI P S w' b m:=by
 obtain ⟨D,⟨J,I,N,U⟩,M⟩:=h;exact ⟨D,⟨J,I,O.trans N,U⟩,M⟩
theorem bI.keep {L:List Nat} (h:bI P S w b m) (D:aa L w w') (I:b∉L):bI P S w' b m:=h.of_block (D.block b h.lt I)
theorem bI.drew (h:bI P S w b m):bI P S w.drew b m:=h
theorem bI.look0 (h:bI P S w b m) (hT:P.underlying T=some (.map S E)) (U:P.underlying S=some .string) {z:Value} (hz:(zeroValue E).run P w= .ok z w) (k:Bs) (Z:k.length≤maxLen) :
  (Instr.lookup T (.map (some b)) (.string (bs k)) false).run P w= .ok ((m.lookup k).getD z) w:=by
 obtain ⟨D,h1,_,_,N⟩:=h;have J:keyOf P S (.string (bs k))=some (.string k):=WideMaps.keyOf_string_mk U (by rw[ag];exact Z);obtain ⟨v,ps,I,M⟩:=h1.lookup (string_keyed U) hT hz (zd:= .held z) (zp:=[]) rfl J;rw[I];have hv':DataW.held v=D.atKey (.string k) (.held z):=by
  injection M with M;exact congrArg Prod.fst M
 cases O:m.lookup k with
 | some u =>
  rw[(N k).2 u O] at hv';injection hv' with e;rw[e];rfl
 | none =>
  have h0:Maps.has D (.string k)=false:=by rw[(N k).1,O];rfl
  rw[atKey_of_not_has h0] at hv';injection hv' with e;rw[e];rfl
theorem bI.look (h:bI P S w b m) (hT:P.underlying T=some (.map S E)) (U:P.underlying S=some .string) {z:Value} (hz:(zeroValue E).run P w= .ok z w) (k:Bs) (Z:k.length≤maxLen) :
  (Instr.lookup T (.map (some b)) (.string (bs k)) true).run P w= .ok (.tuple #[(m.lookup k).getD z,.bool (m.lookup k).isSome]) w:=by
 obtain ⟨D,h1,_,_,M⟩:=h;have J:keyOf P S (.string (bs k))=some (.string k):=WideMaps.keyOf_string_mk U (by rw[ag];exact Z);obtain ⟨v,ps,I,N⟩:=h1.look_ok (string_keyed U) hT hz (zd:= .held z) (zp:=[]) rfl J;rw[I,(M k).1];have hv':DataW.held v=D.atKey (.string k) (.held z):=by
  injection N with N;exact congrArg Prod.fst N
 cases O:m.lookup k with
 | some u =>
  rw[(M k).2 u O] at hv';injection hv' with e;rw[e];rfl
 | none =>
  have h0:Maps.has D (.string k)=false:=by rw[(M k).1,O];rfl
  rw[atKey_of_not_has h0] at hv';injection hv' with e;rw[e];rfl
theorem ur {β:Type} (m:List (Bs×β)) (k:Bs) (v:β) (x:Bs):((k,v)::m).lookup x=if x=k then some v else m.lookup x:=by
 rw[List.lookup_cons];by_cases h:x=k
 ·subst h;simp
 have:(x==k)=false:=by simpa using h
 rw[this,if_neg h]
theorem bI.store (h:bI P S w b m) (hT:P.underlying T=some (.map S E)) (hS:P.underlying S=some .string) (k:Bs) (v:Value) (hk:k.length≤maxLen) (hn:m.length<maxLen) :
  ∃ w',(Instr.mapUpdate T (.map (some b)) (.string (bs k)) v).run P w= .ok () w'∧bI P S w' b ((k,v)::m)∧w.grownBy w' (some b):=by
 obtain ⟨D,h1,N,hs,Z⟩:=h;have M:keyOf P S (.string (bs k))=some (.string k):=WideMaps.keyOf_string_mk hS (by rw[ag];exact hk);obtain ⟨w',J,h3,h4⟩:=h1.update (string_keyed hS) hT hn M (d:= .held v) (ps:=[]) rfl;refine ⟨w',J,⟨_,h3,N.put (by trivial) _,?_,fun x=>?_⟩,h4⟩
 ·rw[size_put N,hs,(Z k).1]
  rfl
 rw[ur];by_cases O:x=k
 ·subst O
  simp only[if_pos];exact ⟨by rw[has_put_same N.isMap (by trivial)];rfl,fun u U z=>by
   cases U
   rw[atKey_put_same N.isMap (by trivial)]⟩
 have I:(Lit.string x)≠Lit.string k:=fun e=>O (by injection e)
 simp only[if_neg O];refine ⟨?_,fun u U z=>?_⟩
 ·rw[has_put_other I];exact (Z x).1
 rw[atKey_put_other I];exact (Z x).2 u U z
theorem bI.len (h:bI P S w b m) (M:P.underlying T=some (.map S E)) (I:TypeId):(Builtin.len_ #[T] I #[.map (some b)]).run P w= .ok (.int .i64 (mV m)) w:=by
 obtain ⟨D,N,_,J,_⟩:=h;rw[N.len M I,J]
def fj (P:Program) (S:TypeId) (w:World) (b r:Nat) (m:List (Bs×Value)) (L:Bs→Bool) (h:Nat):Prop :=
 ∃ D:DataW Value,∃ left,w.ranges P S mT b r m.length D left h∧(∀ k,left (.string k)=L k)∧∀ k:Bs,Maps.has D (.string k)=(m.lookup k).isSome∧∀ v,m.lookup k=some v→∀ z,D.atKey (.string k) z= .held v
theorem fj.left_eq {r I:Nat} {L:Bs→Bool} (h:fj P S w b r m L I):w.rangeLeft b r=I:=by
 obtain ⟨D,left,J,_⟩:=h;exact J.left_eq
theorem fj.lt {r I:Nat} {L:Bs→Bool} (h:fj P S w b r m L I):r<w.heap.size:=by
 obtain ⟨D,left,J,_⟩:=h;exact J.lt
theorem fj.kept {r M:Nat} {L:Bs→Bool} {O:List Nat} (h:fj P S w b r m L M) (U:aa O w w') (h1:b∉O) (h2:r∉O):fj P S w' b r m L M:=by
 obtain ⟨D,left,N,h3⟩:=h;refine ⟨D,left,?_,h3⟩;have hl:=N.lt;have hb:=N.owns.lt;obtain ⟨es,J,I,seen,c0,g1,g2,g3,g4,Z,g6⟩:=N;exact ⟨es,J,I,seen,c0,(U.block b hb h1).trans g1,g2,g3,g4,(U.block r hl h2).trans Z,g6⟩
theorem gH (J:P.underlying S=some .string) {D:Value} {I:Lit} (h:keyOf P S D=some I):∃ k:Bs,D= .string (bs k)∧I= .string k:=by
 cases D<;>simp[keyOf,J,mapKey] at h
 case string s =>
  obtain ⟨_,rfl⟩:=h;exact ⟨s.data.toList,congrArg Value.string (vY s).symm,rfl⟩
theorem iW {J:Array Oper} {rest:List Oper} {o:Oper} {a:Act} {Q:Exit→Act→World→Prop} (M:o.guard=none) (x:Operand) (N:o.op=Op.range T x) (hT:P.underlying T=some (.map S E)) (hS:P.underlying S=some .string)
  (hm:a.eval x= .map (some b)) (h:bI P S w b m)
  (Z:∀ w',fj P S w' b w.heap.size m (fun k=>(m.lookup k).isSome) (mV m)→aa [] w w'→w'.heap.size=w.heap.size+1→wpList P J Q rest (a.put o.dst (.pointer (some ⟨w.heap.size,0,none⟩))) w') :
  wpList P J Q (o::rest) a w:=by
 obtain ⟨D,h1,ht,hs,U⟩:=h;refine wpList_plain M fun K' O=>?_
 obtain ⟨w',I,r1,r2,r3⟩:=h1.range (string_keyed hS) hT;unfold Oper.wp;simp[execOp,N,hm,I,Result.andThen];refine O _ _ (Z w' ⟨D,_,by rw[←hs];exact r1,fun k=>(U k).1,U⟩ (aa.grown (FK _ _) r2 (fun g M=>by cases M)) r3)
theorem jY {U:Array Oper} {rest:List Oper} {o:Oper} {a:Act} {Q:Exit→Act→World→Prop} (hg:o.guard=none) (it:Operand) (av:o.op=Op.next it false) (hS:P.underlying S=some .string) {r O:Nat} {L:Bs→Bool}
  (Z:a.eval it= .pointer (some ⟨r,0,none⟩)) (h:fj P S w b r m L O)
  (hDone:O=0→(∀ k,L k=false)→wpList P U Q rest (a.put o.dst (.tuple #[.bool false])) w)
  (hMore:∀ (k:Bs) (v:Value) (w':World) (I:Nat),L k=true→m.lookup k=some v→fj P S w' b r m (fun x=>L x && !(x==k)) I→I<O→aa [r] w w'→w'.heap.size=w.heap.size →
   (Instr.entry (.pointer (some ⟨r,0,none⟩))).run P w'= .ok (.tuple #[.string (bs k),v]) w'→wpList P U Q rest (a.put o.dst (.tuple #[.bool true,.string (bs k),v])) w') :
  wpList P U Q (o::rest) a w:=by
 obtain ⟨D,left,hr,hL,h2⟩:=h;refine wpList_plain hg fun K' a1=>?_
 unfold Oper.wp;rcases hr.next (string_keyed hS) o.type with ⟨h0,hl,J⟩|⟨a8,v,kl,y,w',I,ad,a7,hv,aA,J,a5,a6,a4,a3,a2⟩
 ·simp[execOp,av,Z,J,Result.andThen]
  exact a1 _ _ (hDone h0 fun k=>(hL k).symm.trans (hl _))
 obtain ⟨k,rfl,rfl⟩:=gH hS ad;simp[execOp,av,Z,J,Result.andThen];have hy:y=(.held v,[]):=by injection hv with hv;exact hv.symm
 subst hy;have a0:Maps.has D (.string k)=true:=has_true_of_atKey aA;have M:=(h2 k).1;rw[a0] at M;obtain ⟨u,hu⟩:=Option.isSome_iff_exists.1 M.symm;have N:=(h2 k).2 u hu (.held v);rw[aA] at N;injection N with N;subst N;refine a1 _ _ (hMore k v w' I ((hL k).symm.trans a7) hu ⟨D,_,a5,fun x=>?_,h2⟩ a6 (aa.grown (FK _ _) a4 (fun g hg=> .inl (by injection hg with hg;simp[hg]))) a3 a2);show (left (.string x) && !(Lit.string x).sameKey (.string k))=_;rw[hL x];rfl
end
theorem gI {β:Type} {m:List (Bs×β)} {k:Bs} {v:β} (I:(m.map (·.1)).Nodup) (h:(k,v)∈m):m.lookup k=some v:=by
 induction m with
 | nil=>cases h
 | cons q m ih =>
  obtain ⟨a,c⟩:=q;rw[List.map_cons,List.nodup_cons] at I;rw[List.lookup_cons];rcases List.mem_cons.1 h with h'|h'
  ·injection h' with J M
   subst J M;simp
  have D:k≠a:=fun e=>I.1 (List.mem_map.2 ⟨(k,v),h',e⟩)
  have:(k==a)=false:=by simpa using D
  rw[this];exact ih I.2 h'
theorem gp {β:Type} {m:List (Bs×β)} {k:Bs} {v:β} (h:m.lookup k=some v):(k,v)∈m:=by
 induction m with
 | nil=>cases h
 | cons q m ih =>
  obtain ⟨a,c⟩:=q;rw[List.lookup_cons] at h;by_cases D:k=a
  ·subst D
   simp only[beq_self_eq_true] at h;injection h with h;subst h;exact List.mem_cons_self ..
  have:(k==a)=false:=by simpa using D
  rw[this] at h;exact List.mem_cons_of_mem _ (ih h)
def mW (P:Program) (S:TypeId) (x:MapEntry):Bs:=match keyOf P S x.key with
 | some (.string s)=>s
 | _=>[]
theorem bI.of_fit {P:Program} {S:TypeId} {w:World} {b:Nat} {I:Array MapEntry} {cl:Nat} {H:Type} {R0:Value→Option (DataW H×List MemPlace)} (hb:w.heap[b]? = some (.map I cl)) (F:WideElems.Fit P S R0 I cl) (hS:P.underlying S=some .string) :
  ∃ mv:List (Bs×Value),mv.length=I.size∧bI P S w b mv∧(mv.map (·.1)).Nodup∧∀ p∈mv,∃ x∈I.toList,x.val=p.2∧x.key= .string (bs p.1):=by
 have K:=string_keyed hS;have F1:WideElems.Fit P S mT I cl:=⟨F.size,F.stamped,fun x D=>by
  obtain ⟨l,N⟩:=F.keys x D;exact ⟨(l,.held x.val),by simp[WideElems.rd,N,mT]⟩⟩
 have O:∀ x∈I.toList,keyOf P S x.key=some (.string (mW P S x))∧x.key= .string (bs (mW P S x)):=fun x D=>by
  obtain ⟨l,N⟩:=F.keys x D;obtain ⟨k,h1,rfl⟩:=gH hS N;unfold mW;rw[N];exact ⟨rfl,h1⟩
 have M:∀ x∈I.toList,WideElems.rg P S mT x=(.string (mW P S x),.held x.val):=fun x D=>by
  simp[WideElems.rg,WideElems.rd,(O x D).1,mT]
 have aA:w.ownsMap P S mT b I.size (.map ((I.toList.map (WideElems.rg P S mT)).foldr DataW.insert [])):=⟨I,cl,hb,F1,Fy _,rfl⟩;have ad:∀ l:List MapEntry,(l.map fun x=>(mW P S x,x.val)).map (·.1)=l.map (mW P S):=fun l=>by
  rw[List.map_map];rfl
 have Z:((I.toList.map fun x=>(mW P S x,x.val)).map (·.1)).Nodup:=by
  rw[ad];have:=Maps.fit_apart K F1;rw[List.pairwise_map] at this;unfold List.Nodup;rw[List.pairwise_map];refine List.Pairwise.imp_of_mem (fun {x y} D hy av e=>?_) this;rw[M x D,M y hy] at av;exact av (by simp only;rw[e])
 have a0:∀ p,p∈(I.toList.map (WideElems.rg P S mT)).foldr DataW.insert []→∃ x∈I.toList,p=(.string (mW P S x),.held x.val):=fun p J=>by
  obtain ⟨x,D,rfl⟩:=List.mem_map.1 (mem_sorted.1 J);exact ⟨x,D,M x D⟩
 have U:∀ x∈I.toList,(Lit.string (mW P S x),(DataW.held x.val:DataW Value))∈(I.toList.map (WideElems.rg P S mT)).foldr DataW.insert []:=fun x D=>mem_sorted.2 (by
  rw[←M x D];exact List.mem_map.2 ⟨x,D,rfl⟩)
 refine ⟨I.toList.map fun x=>(mW P S x,x.val),by simp,⟨_,?_,aA.tidy K,?_,fun k=>⟨?_,fun v hv z=>?_⟩⟩,Z,fun p J=>?_⟩
 ·rw[show (I.toList.map fun x=>(mW P S x,x.val)).length=I.size by simp]
  exact aA
 ·rw[ki Z,List.length_map]
  rw[size_eq,length_read];simp
 ·rw[has_eq,Bool.eq_iff_iff,List.any_eq_true,cX]
  constructor
  ·rintro ⟨p,J,hk⟩
   obtain ⟨x,D,rfl⟩:=a0 p J;have e:=WideAt.sameKey_eq hk;injection e with e;rw[ad,←e];exact List.mem_map.2 ⟨x,D,rfl⟩
  intro h;rw[ad] at h;obtain ⟨x,D,rfl⟩:=List.mem_map.1 h;exact ⟨_,U x D,WideAt.sameKey_self (by trivial)⟩
 ·have hm:=gp hv
  obtain ⟨x,D,he⟩:=List.mem_map.1 hm;injection he with a1 a2;have hs:(((I.toList.map (WideElems.rg P S mT)).foldr DataW.insert []).find? (fun p=>p.1.sameKey (.string k))).isSome=true:=List.find?_isSome.2 ⟨_,U x D,by rw[a1];exact WideAt.sameKey_self (by trivial)⟩;obtain ⟨p,J⟩:=Option.isSome_iff_exists.1 hs;obtain ⟨y,hy,rfl⟩:=a0 p (List.mem_of_find?_eq_some J);have hk:=List.find?_some J;have e:=WideAt.sameKey_eq hk;injection e with e;have N:(I.toList.map fun x=>(mW P S x,x.val)).lookup k=some y.val:=gI Z (by
   rw[←e];exact List.mem_map.2 ⟨y,hy,rfl⟩)
  rw[hv] at N;injection N with N;simp only[DataW.atKey,J];rw[N]
 obtain ⟨x,D,rfl⟩:=List.mem_map.1 J;exact ⟨x,D,rfl,(O x D).2⟩
end
section
section
variable {α:Type}
structure iX (le:α→α→Bool):Prop where
 total:∀ a b,le a b=true∨le b a=true
 trans:∀ a b c,le a b=true→le b c=true→le a c=true
variable {le:α→α→Bool}
theorem iX.flip (h:iX le) {a b:α} (I:le a b=false):le b a=true:=by
 rcases h.total a b with D|D
 ·rw[I] at D;cases D
 exact D
abbrev lM (le:α→α→Bool) (l:List α):Prop:=l.Pairwise fun a b=>le a b=true
abbrev mg (le:α→α→Bool) (a b:List α):List α:=List.merge a b le
theorem fK (l:List α):mg le l []=l:=by simp[mg]
theorem fL (l:List α):mg le [] l=l:=by simp[mg]
theorem jF (a:α) (l:List α) (b:α) (r:List α):mg le (a::l) (b::r)=if le a b=true then a::mg le l (b::r) else b::mg le (a::l) r:=by
 simp only[mg];exact List.cons_merge_cons ..
theorem gt {a b:α} (h:le a b=true) (l r:List α):mg le (a::l) (b::r)=a::mg le l (b::r):=by rw[jF,if_pos h]
theorem kR {a b:α} (h:le a b=false) (l r:List α):mg le (a::l) (b::r)=b::mg le (a::l) r:=by rw[jF,if_neg (by rw[h];decide)]
theorem Dk (a b:List α):(mg le a b).length=a.length+b.length:=by simp[mg,List.length_merge]
theorem BS (a b:List α):(mg le a b).Perm (a++b):=List.merge_perm_append le
theorem eV:∀ (A1 D B1 h:List α),(∀ x∈A1,∀ y∈h,le x y=true)→(∀ x∈D,∀ y∈B1,le x y=false)→mg le (A1++D) (B1++h)=mg le A1 B1++mg le D h
 | [],D,[],h,_,_=>by simp[mg]
 | [],D,y::B1,h,M,I=>by
  have ih:=eV [] D B1 h M fun x U z J=>I x U z (List.mem_cons_of_mem _ J)
  cases D with
  | nil=>simp[mg]
  | cons x D =>
   rw[fL] at ih ⊢;rw[List.nil_append] at ih ⊢;rw[List.cons_append,kR (I x (List.mem_cons_self ..) y (List.mem_cons_self ..)),ih,List.cons_append]
 | x::A1,D,[],h,M,I=>by
  have ih:=eV A1 D [] h (fun z J=>M z (List.mem_cons_of_mem _ J)) I
  cases h with
  | nil=>simp[mg]
  | cons y h =>
   rw[fK] at ih ⊢;rw[List.nil_append] at ih ⊢;rw[List.cons_append,gt (M x (List.mem_cons_self ..) y (List.mem_cons_self ..)),ih,List.cons_append]
 | x::A1,D,y::B1,h,M,I=>by
  have N:=eV A1 D (y::B1) h (fun z J=>M z (List.mem_cons_of_mem _ J)) I;have O:=eV (x::A1) D B1 h M fun z J w Z=>I z J w (List.mem_cons_of_mem _ Z)
  rw[List.cons_append,List.cons_append,jF,jF];rw[List.cons_append] at N O;split
  ·rw[N,List.cons_append]
  rw[O,List.cons_append]
termination_by A1 _ B1 _=>A1.length+B1.length
theorem BU {A:List α} {y:α} {B:List α} (h:∀ x∈A,le x y=true):mg le A (y::B)=A++(y::B):=by
 induction A with
 | nil=>rw[fL];rfl
 | cons x A ih=>rw[gt (h x (List.mem_cons_self ..)),ih fun z D=>h z (List.mem_cons_of_mem _ D)];rfl
theorem xx {A B:List α} (h:∀ x∈A,∀ y∈B,le x y=true):mg le A B=A++B:=by
 have:=eV A [] [] B h fun x D=>by cases D
 rw[List.append_nil,List.nil_append,fK,fL] at this;exact this
theorem kS (M:iX le):∀ (A B C:List α),mg le (mg le A B) C=mg le A (mg le B C)
 | [],B,C=>by rw[fL,fL]
 | a::A,[],C=>by rw[fK,fL]
 | a::A,b::B,[]=>by rw[fK,fK]
 | a::A,b::B,c::C=>by
  have i1:=kS M A (b::B) (c::C);have i2:=kS M (a::A) B (c::C);have N:=kS M (a::A) (b::B) C
  cases J:le a b with
  | true =>
   rw[gt J] at N ⊢
   cases D:le b c with
   | true =>
    rw[gt D] at i1 ⊢;rw[gt (M.trans _ _ _ J D),gt J,i1]
   | false =>
    rw[kR D] at i1 ⊢
    cases I:le a c with
    | true=>rw[gt I,gt I,i1]
    | false=>rw[kR I,kR I,N]
  | false =>
   rw[kR J] at N ⊢
   cases D:le b c with
   | true =>
    rw[gt D,gt D,kR J,i2]
   | false =>
    have I:le a c=false:=by
     cases h:le a c with
     | false=>rfl
     | true=>rw[M.trans _ _ _ (M.flip J) h] at D;cases D
    rw[kR D,kR D,kR I,N]
termination_by A B C=>A.length+B.length+C.length
theorem Dl (D:iX le) {A B:List α} (J:lM le A) (I:lM le B):lM le (mg le A B):=by
 refine List.pairwise_merge (le:=le) (fun a b c=>D.trans a b c) (fun a b=>by rcases D.total a b with h|h<;>simp[h]) A B J I
def eh (le:α→α→Bool) (l:List α):List α:=l.foldl (fun acc y=>mg le acc [y]) []
theorem gJ (l:List α) (y:α):eh le (l++[y])=mg le (eh le l) [y]:=by
 unfold eh;rw[List.foldl_append];rfl
theorem gK (l:List α):(eh le l).Perm l:=by
 have:∀ (l acc:List α),(l.foldl (fun acc y=>mg le acc [y]) acc).Perm (acc++l):=fun l=>by
  induction l with
  | nil=>intro acc;rw[List.append_nil];exact .refl _
  | cons y l ih =>
   intro acc;rw[List.foldl_cons];refine (ih _).trans ?_;have:=(BS (le:=le) acc [y]).append_right l;rwa [List.append_assoc] at this
 exact this l []
theorem bJ (l:List α):(eh le l).length=l.length:=(gK l).length_eq
theorem gL {p:List α→Prop} (D:p []) (h:∀ l y,p l→p (l++[y])) (l:List α):p l:=by
 rw[←List.reverse_reverse l]
 induction l.reverse with
 | nil=>exact D
 | cons y r ih=>rw[List.reverse_cons];exact h _ _ ih
theorem kT (h:iX le) (l:List α):lM le (eh le l):=by
 refine gL (p:=fun l=>lM le (eh le l)) List.Pairwise.nil (fun l y ih=>?_) l;rw[gJ];exact Dl h ih (List.pairwise_singleton _ _)
theorem nI (h:iX le) (A B:List α):eh le (A++B)=mg le (eh le A) (eh le B):=by
 refine gL (p:=fun B=>eh le (A++B)=mg le (eh le A) (eh le B)) ?_ (fun l y ih=>?_) B
 ·rw[List.append_nil]
  exact (fK _).symm
 rw[←List.append_assoc,gJ,gJ,ih,kS h]
theorem zH {A1 h:List α} {y:α} (I:∀ x∈A1,le x y=true) (M:∀ x∈h,le x y=false):mg le (A1++h) [y]=A1++y::h:=by
 have e:=eV (le:=le) A1 h [y] [] (fun x _ z D=>by cases D) fun x J z D=>by rw[List.mem_singleton.1 D];exact M x J
 rw[List.append_nil,fK] at e;rw[e,BU I,List.append_assoc];rfl
theorem Dm {B1 D:List α} {x:α} (J:∀ y∈B1,le x y=false) (M:∀ y∈D,le x y=true):mg le [x] (B1++D)=B1++x::D:=by
 have e:=eV (le:=le) [] [x] B1 D (fun z h=>by cases h) fun z h y I=>by rw[List.mem_singleton.1 h];exact J y I
 rw[List.nil_append,fL] at e;rw[e,xx fun z h y I=>by rw[List.mem_singleton.1 h];exact M y I];rfl
theorem sw {A:List α} (h:lM le A) {x:α} (J:x∈A) {n:Nat} (O:n+1=A.length) (I:iX le):le x (A[n]'(by omega))=true:=by
 obtain ⟨i,M,rfl⟩:=List.getElem_of_mem J;rcases Nat.lt_or_ge i n with D|N
 ·exact List.pairwise_iff_getElem.1 h i n M (by omega) D
 obtain rfl:i=n:=by omega
 rcases I.total A[i] A[i] with h|h<;>exact h
theorem sx {A:List α} (h:lM le A) {x:α} (J:x∈A) (N:0<A.length) (I:iX le):le A[0] x=true:=by
 obtain ⟨i,M,rfl⟩:=List.getElem_of_mem J;rcases Nat.eq_zero_or_pos i with rfl|D
 ·rcases I.total A[0] A[0] with h|h<;>exact h
 exact List.pairwise_iff_getElem.1 h 0 i (by omega) M D
theorem BV (I:iX le) {A B:List α} (O:lM le A) (N:lM le B) (h:∀ n,n+1=A.length→∀ (U:n<A.length) (Z:0<B.length),le A[n] B[0]=true):∀ x∈A,∀ y∈B,le x y=true:=by
 intro x J y M;have hl:=List.length_pos_of_mem J;have D:=List.length_pos_of_mem M;exact I.trans _ _ _ (sw O J (n:=A.length-1) (by omega) I) (I.trans _ _ _ (h (A.length-1) (by omega) (by omega) D) (sx N M D I))
theorem BW (D:iX le) {A B:List α} (U:lM le A) (hB:lM le B) (h:∀ n,n+1=B.length→∀ (hn:n<B.length) (h0:0<A.length),le A[0] B[n]=false):∀ x∈A,∀ y∈B,le x y=false:=by
 intro x J y N;have O:=List.length_pos_of_mem J;have Z:=List.length_pos_of_mem N;have M:=h (B.length-1) (by omega) (by omega) O
 cases I:le x y with
 | false=>rfl
 | true =>
  rw[D.trans _ _ _ (sx U J O D) (D.trans _ _ _ I (sw hB N (n:=B.length-1) (by omega) D))] at M;cases M
end
theorem Fo:∀ a b:Bs,Op.bytesLess a b=decide (a<b)
 | [],[]=>by simp[Op.bytesLess]
 | _::_,[]=>by simp[Op.bytesLess]
 | [],_::_=>by simp[Op.bytesLess]
 | x::a,y::b=>by
  have ih:=Fo a b;unfold Op.bytesLess;rw[ih,Bool.eq_iff_iff];simp[List.cons_lt_cons_iff]
def BJ (a b:Vl):Bool:=!cL b a
theorem kU (a b:Vl):BJ a b=true↔(a.kind<b.kind∨a.kind=b.kind∧((a.kind=1∧a.num≤b.num)∨(a.kind≠1∧a.word≤b.word))):=by
 unfold BJ cL;rw[Bool.not_eq_true'];by_cases D:b.kind=a.kind
 ·rw[if_pos D]
  by_cases I:b.kind=1
  ·rw[if_pos I,decide_eq_false_iff_not]
   constructor
   ·intro h;exact .inr ⟨D.symm,.inl ⟨by omega,by omega⟩⟩
   rintro (h|⟨_,⟨_,h⟩|⟨h,_⟩⟩)
   ·omega
   ·omega
   exact absurd (D ▸ I) h
  rw[if_neg I,Fo,decide_eq_false_iff_not,List.not_lt];constructor
  ·intro h;exact .inr ⟨D.symm,.inr ⟨by omega,h⟩⟩
  rintro (h|⟨_,⟨h,_⟩|⟨_,h⟩⟩)
  ·omega
  ·omega
  exact h
 rw[if_neg D,decide_eq_false_iff_not];constructor
 ·intro h;exact .inl (by omega)
 rintro (h|⟨h,_⟩)
 ·omega
 omega
theorem wh:iX BJ where
 total a b:=by
  rw[kU,kU];rcases Int.lt_trichotomy a.kind b.kind with h|h|h
  ·exact .inl (.inl h)
  ·by_cases I:a.kind=1
   ·rcases Int.le_total a.num b.num with D|D
    ·exact .inl (.inr ⟨h,.inl ⟨I,D⟩⟩)
    exact .inr (.inr ⟨h.symm,.inl ⟨by omega,D⟩⟩)
   rcases List.le_total a.word b.word with D|D
   ·exact .inl (.inr ⟨h,.inr ⟨I,D⟩⟩)
   exact .inr (.inr ⟨h.symm,.inr ⟨by omega,D⟩⟩)
  exact .inr (.inl h)
 trans a b c:=by
  rw[kU,kU,kU];rintro (I|⟨I,D⟩) (U|⟨U,N⟩)
  ·exact .inl (by omega)
  ·exact .inl (by omega)
  ·exact .inl (by omega)
  refine .inr ⟨by omega,?_⟩;rcases D with ⟨J,M⟩|⟨J,M⟩<;>rcases N with ⟨O,b2⟩|⟨O,b2⟩
  ·exact .inl ⟨J,by omega⟩
  ·omega
  ·omega
  exact .inr ⟨J,List.le_trans M b2⟩
def mX (h:List Nat) (x z:List Vl):Int:=match h with
 | []=>0
 | k::h=>if cL (x.getD k ⟨0,0,[]⟩) (z.getD k ⟨0,0,[]⟩)=true then -1 else if cL (z.getD k ⟨0,0,[]⟩) (x.getD k ⟨0,0,[]⟩)=true then 1 else mX h x z
def Dn (h:List Nat) (x z:List Vl):Bool:=!decide (mX h z x<0)
theorem nJ (k:Nat) (h:List Nat) (x z:List Vl):Dn (k::h) x z=(BJ (x.getD k ⟨0,0,[]⟩) (z.getD k ⟨0,0,[]⟩)&&(!BJ (z.getD k ⟨0,0,[]⟩) (x.getD k ⟨0,0,[]⟩)||Dn h x z)):=by
 have D:=wh.total (x.getD k ⟨0,0,[]⟩) (z.getD k ⟨0,0,[]⟩);unfold Dn;rw[mX];unfold BJ at D ⊢
 cases I:cL (z.getD k ⟨0,0,[]⟩) (x.getD k ⟨0,0,[]⟩) with
 | true=>simp
 | false =>
  cases J:cL (x.getD k ⟨0,0,[]⟩) (z.getD k ⟨0,0,[]⟩) with
  | true=>simp
  | false=>simp
theorem q8:∀ O:List Nat,iX (Dn O)
 | []=>⟨fun _ _=> .inl rfl,fun _ _ _ _ _=>rfl⟩
 | k::O=>by
  have ih:=q8 O;have I:=wh;refine ⟨fun a b=>?_,fun a b c J h=>?_⟩
  ·rw[nJ,nJ]
   have U:=I.total (a.getD k ⟨0,0,[]⟩) (b.getD k ⟨0,0,[]⟩);have Z:=ih.total a b;revert U
   cases BJ (a.getD k ⟨0,0,[]⟩) (b.getD k ⟨0,0,[]⟩)<;>cases BJ (b.getD k ⟨0,0,[]⟩) (a.getD k ⟨0,0,[]⟩)<;>simp_all
  rw[nJ,Bool.and_eq_true,Bool.or_eq_true,Bool.not_eq_true'] at J h ⊢;refine ⟨I.trans _ _ _ J.1 h.1,?_⟩;rcases J.2 with M|M
  ·left
   cases N:BJ (c.getD k ⟨0,0,[]⟩) (a.getD k ⟨0,0,[]⟩) with
   | false=>rfl
   | true=>rw[I.trans _ _ _ h.1 N] at M;cases M
  rcases h.2 with D|D
  ·left
   cases N:BJ (c.getD k ⟨0,0,[]⟩) (a.getD k ⟨0,0,[]⟩) with
   | false=>rfl
   | true=>rw[I.trans _ _ _ N J.1] at D;cases D
  exact .inr (ih.trans _ _ _ M D)
end
section
open Go.RowKit
theorem ao.new' (W:World) (k:Nat) (t:TypeId) (c:Array Value) (h:k=W.heap.size):ao (W.alloc (FQ c t)) k t c:=h ▸ FL W t c
section
variable {P:Program} (w:World)
theorem dw (base:Nat) (t ty e:TypeId) (i:TypeInfo) (z:Value) (size D:Nat) (ht:P.underlying t=some (.slice e)) (hi:P.info? e=some i) (hz:i.zero=some z)
  (N:i.size=size) (aA:i.bytes=D) (a2:z.cells.size=size) (av:0<size)
  {v:Value} {n:Nat} {xs:List Value} (I:w.ownsRow base e size v n xs) {A:Option Addr} {m:Nat} {O:List Value} (U:Rd w [] size A m O) (c:Nat) (h1:∀ u∈O,u.oneCell'=true)
  (a1:n+m≤maxLen) (J:(n+m)*D≤140737488355328) (M:base≤w.heap.size) :
  ∃ v' w',(Builtin.append_ #[t,t] ty #[v,FN A m c]).run P w= .ok v' w'∧w'.ownsRow base e size v' (n+m) (xs++O)∧w.grownBy w' v.ownBlock:=by
 cases A with
 | some ad =>
  have hc:∀ j u,O[j]? = some u→w.cell? (ad.add j)=some u:=fun j u hu=>by
   have hm:0<m:=by
    have:=(List.getElem?_eq_some_iff.1 hu).1;rw[U.1] at this;rcases Nat.eq_zero_or_pos m with h|h
    ·rw[h] at this;omega
    exact h
   obtain ⟨a3,e1,_,_,h⟩:=U.2 hm;injection e1 with e1;rw[e1];exact h j u hu
  obtain ⟨v',w',Z,h2,h3,_⟩:=run_append_own_at (P:=P) w base t ty e i z size D ht hi hz N aA a2 av v n xs I ad m c O U.1 hc h1 a1 J M;exact ⟨v',w',Z,h2,h3⟩
 | none =>
  have hm:m=0:=by
   rcases Nat.eq_zero_or_pos m with h|h
   ·exact h
   obtain ⟨_,h,_⟩:=U.2 h;cases h
  subst hm;have hy:O=[]:=List.eq_nil_of_length_eq_zero (by rw[U.1,Nat.zero_mul]);subst hy;refine ⟨v,w,?_,by simpa using I,World.grownBy.refl w _⟩;have hU:=run_underlying ht;rcases I.2 with ⟨rfl,rfl⟩|⟨g,cap,cur,rfl,_,_,a0,_⟩
  ·simp[Builtin.append_,hU,sizeOf,typeInfo,hi,Builtin.lenOf,Builtin.firstCells]
  simp[Builtin.append_,hU,sizeOf,typeInfo,hi,Builtin.lenOf,Builtin.firstCells,a0,storeCells]
theorem gU {w:World} {e:TypeId} {cur:Array Value} {size G:Nat} (h:cur.size=G*size) (D:G≤maxLen):(w.alloc (FQ cur e)).ownsRow w.heap.size e size (FN (some ⟨w.heap.size,0,none⟩) 0 G) 0 [] :=
 ⟨by simp,.inr ⟨w.heap.size,G,cur,rfl,Fy _,heap_alloc_new _ _,FF _,D,h,by simp⟩⟩
end
def dA (h:List (Nat×List Value)) (m:Nat):Nat:=((h.take m).map (·.1)).sum
def iP (h:List (Nat×List Value)) (m:Nat):List Value:=(h.take m).flatMap (·.2)
def DO (w:World) (size:Nat) (u:Value) (p:Nat×List Value):Prop:=∃ A c,u=FN A p.1 c∧Rd w [] size A p.1 p.2
theorem dx (D:List (Nat×List Value)) (m:Nat) (h:m<D.length):dA D (m+1)=dA D m+D[m].1:=by
 unfold dA;rw[List.take_succ_eq_append_getElem h,List.map_append,List.sum_append];simp
theorem lX (D:List (Nat×List Value)) (m:Nat) (h:m<D.length):iP D (m+1)=iP D m++D[m].2:=by
 unfold iP;rw[List.take_succ_eq_append_getElem h,List.flatMap_append];simp
theorem rE (D:List (Nat×List Value)) {m:Nat} (h:m≤D.length):dA D m≤dA D D.length:=by
 have I:∀ d,m+d≤D.length→dA D m≤dA D (m+d):=fun d=>by
  induction d with
  | zero=>intro _;exact Fy _
  | succ d ih =>
   intro h;have:=ih (by omega);have J:=dx D (m+d) (by omega);rw[←Nat.add_assoc,J];omega
 have:=I (D.length-m) (by omega);rwa [show m+(D.length-m)=D.length by omega] at this
end
section
theorem World.heap_size_alloc' (w:World) (o:Obj):(w.alloc o).heap.size=w.heap.size+1:=Array.size_push _
open Go.RowKit Go.Extern.Stop Go.Stop Go.Extern
abbrev pH (t:Nat):Value:=FO (some ⟨13,t,none⟩)
theorem mD (t:Addr) (w:World):(ReflectliteValue.unpack (.iface 135 (FO (some t)))).run Tryz.prog w
  = .ok (.agg #[FO (some ⟨13,135,none⟩),FO (some ⟨w.heap.size,0,none⟩),.int .u64 150]) (w.alloc (FQ #[FO (some t)] 135)):=by kernel_rfl
theorem s9 (a:Addr) (w:World):(ReflectliteValue.methodAny (ReflectliteValue.valueError "reflectlite.Value.Type" 0) (fun t _ _ _=>ReflectliteType.toType t) #[.agg #[FO (some ⟨13,135,none⟩),FO (some a),.int .u64 150]]).run Tryz.prog w
  = .ok (.iface 208 (.agg #[FO (some ⟨13,135,none⟩)])) w:=by kernel_rfl
theorem j8 (h:Value) (w:World):(Go.method 419 208 (.agg #[h]) "Kind").run Tryz.prog w= .ok (220,h) w:=by kernel_rfl
theorem tb (w:World):((ReflectliteType.abiMethod fun t=>(fun a:Nat=>Value.int IntKind.u8 (a:Int)) <$> Rtype.kind t) #[FO (some ⟨13,135,none⟩)]).run Tryz.prog w= .ok (.int .u8 22) w:=by kernel_rfl
theorem tc (w:World):((ReflectliteType.abiMethod fun t=>(fun a:Nat=>Value.int IntKind.u8 (a:Int)) <$> Rtype.kind t) #[FO (some ⟨13,37,none⟩)]).run Tryz.prog w= .ok (.int .u8 2) w:=by kernel_rfl
theorem Fp (z:Sem Value) (f:TypeId→Addr→Nat→Nat→Sem Value) (v:Value) :
  ReflectliteValue.method z f #[v]=(do match ← ReflectliteValue.parts v with|none=>z|some (t,a,fl)=>f t a fl (fl % 32)):=rfl
theorem qx (a:Addr) (w:World):(ReflectliteValue.parts (.agg #[FO (some ⟨13,135,none⟩),FO (some a),.int .u64 150])).run Tryz.prog w= .ok (some (135,a,150)) w:=by kernel_rfl
theorem qy (a p:Addr) (W:World) (h:W.cell? a=some (FO (some p))) :
  (ReflectliteValue.method (ReflectliteValue.valueError "reflectlite.Value.IsNil" 0) ReflectliteValue.isNil #[.agg #[FO (some ⟨13,135,none⟩),FO (some a),.int .u64 150]]).run Tryz.prog W= .ok (.bool false) W:=by
 rw[Fp];simp only[Sem.run_bind,qx,Result.andThen];simp[ReflectliteValue.isNil,loadVar,isAgg,underlying,Tryz.underlying135,h,Result.andThen]
theorem j9 (h:Value) (w:World):(Go.method 419 208 (.agg #[h]) "Elem").run Tryz.prog w= .ok (232,.agg #[h]) w:=by kernel_rfl
theorem ft (h:Value) (w:World):(Go.method 419 208 (.agg #[h]) "Implements").run Tryz.prog w= .ok (233,.agg #[h]) w:=by kernel_rfl
theorem eD (h:Value) (w:World):(Go.method 419 208 (.agg #[h]) "AssignableTo").run Tryz.prog w= .ok (230,.agg #[h]) w:=by kernel_rfl
theorem tf (w:World):(ReflectliteType.method ReflectliteType.elem #[.agg #[FO (some ⟨13,135,none⟩)]]).run Tryz.prog w= .ok (.iface 208 (.agg #[FO (some ⟨13,37,none⟩)])) w:=by kernel_rfl
theorem jq (w:World):(ReflectliteType.relation "Implements" ReflectliteType.implements_ #[.agg #[FO (some ⟨13,37,none⟩)],.iface 208 (.agg #[FO (some ⟨13,34,none⟩)])]).run Tryz.prog w= .ok (.bool true) w:=by kernel_rfl
theorem ov (v:Value) (w:World):(ReflectliteType.typeOf #[.iface 37 v]).run Tryz.prog w= .ok (.iface 208 (.agg #[FO (some ⟨13,37,none⟩)])) w:=by kernel_rfl
theorem jr (w:World):(ReflectliteType.relation "AssignableTo" ReflectliteType.assignableTo #[.agg #[FO (some ⟨13,37,none⟩)],.iface 208 (.agg #[FO (some ⟨13,37,none⟩)])]).run Tryz.prog w= .ok (.bool true) w:=by kernel_rfl
theorem mF (e:Int) (w:World):(ReflectliteValue.unpack (.iface 37 (FR FS e))).run Tryz.prog w
  = .ok (.agg #[FO (some ⟨13,37,none⟩),FO (some ⟨w.heap.size,0,none⟩),.int .u64 130]) (w.alloc (FQ #[FR FS e] 37)):=by kernel_rfl
theorem uU (w:World):(Rtype.elem? 135).run Tryz.prog w= .ok (some 37) w:=by kernel_rfl
theorem D5 (p:Addr) (w:World):(ReflectliteValue.mk 37 p ReflectliteValue.flagAddr).run Tryz.prog w= .ok (.agg #[FO (some ⟨13,37,none⟩),FO (some p),.int .u64 386]) w:=by kernel_rfl
theorem qz (a p:Addr) (W:World) (h:W.cell? a=some (FO (some p))) :
  (ReflectliteValue.method (ReflectliteValue.valueError "reflectlite.Value.Elem" 0) ReflectliteValue.elem #[.agg #[FO (some ⟨13,135,none⟩),FO (some a),.int .u64 150]]).run Tryz.prog W
   = .ok (.agg #[FO (some ⟨13,37,none⟩),FO (some p),.int .u64 386]) W:=by
 rw[Fp];simp only[Sem.run_bind,qx,Result.andThen];simp[ReflectliteValue.elem,loadVar,isAgg,underlying,Tryz.underlying135,h,Result.andThen,uU,D5]
theorem Fv (v x:Value):ReflectliteValue.set #[v,x]=(do
  let (some (dst,a,fl),some (src,b,_)):=(← ReflectliteValue.parts v,←ReflectliteValue.parts x)
   | unsupported (.noEntry "extern/(internal/reflectlite.Value).Set.zeroValue")
  if fl / ReflectliteValue.flagAddr % 2==0 then unsupported (.noEntry "extern/(internal/reflectlite.Value).Set.unaddressable")
  let h ← loadVar src b
  if ← Rtype.directlyAssignable dst src then storeVar dst a h
  else if ← Rtype.implements dst src then
   if (← Rtype.kind src)==20 then
    match h with
    | .nilIface=>unsupported (.noEntry "extern/reflectlite: a nil value of one interface type handed on as a value of another")
    | _=>storeVar dst a h
   else storeVar dst a (.iface src h)
  else panicString ("reflectlite.Set: value of type " ++ (← Rtype.spelt src) ++ " is not assignable to type " ++ (← Rtype.spelt dst))
  pure (.tuple #[])):=rfl
theorem uV (a:Addr) (w:World):(ReflectliteValue.parts (.agg #[FO (some ⟨13,37,none⟩),FO (some a),.int .u64 386])).run Tryz.prog w= .ok (some (37,a,386)) w:=by kernel_rfl
theorem xX (a:Addr) (w:World):(ReflectliteValue.parts (.agg #[FO (some ⟨13,37,none⟩),FO (some a),.int .u64 130])).run Tryz.prog w= .ok (some (37,a,130)) w:=by kernel_rfl
theorem uW (w:World):(Rtype.directlyAssignable 37 37).run Tryz.prog w= .ok true w:=by kernel_rfl
theorem wv (h b:Addr) (e:Int) (D:Value) (W:World) (J:W.cell? b=some (FR FS e)) (I:W.cell? h=some D) (M:W.frozen? h=false) :
  (ReflectliteValue.set #[.agg #[FO (some ⟨13,37,none⟩),FO (some h),.int .u64 386],.agg #[FO (some ⟨13,37,none⟩),FO (some b),.int .u64 130]]).run Tryz.prog W
   = .ok (.tuple #[]) (W.setCell h (FR FS e)):=by
 rw[Fv];simp only[Sem.run_bind,uV,xX,Result.andThen];simp[ReflectliteValue.flagAddr,loadVar,isAgg,underlying,Tryz.underlying37,J,Result.andThen,uW,storeVar,Value.cells,storeCells,Addr.add];rw[run_store Tryz.prog W h _ _ (by rfl)];simp[I,M]
def iJ (w:World):Prop:=w.cell? ⟨2,0,none⟩=some (.iface 208 (.agg #[FO (some ⟨13,34,none⟩)]))
theorem iJ.keep {L:List Nat} {w w':World} (h:iJ w) (D:aa L w w') (I:2∉L):iJ w':=D.cell_of (p:=⟨2,0,none⟩) h I
theorem D6 (e:Int) (t:Addr) (D:Value) (w:World) (N:w.cell? ⟨2,0,none⟩=some (.iface 208 (.agg #[FO (some ⟨13,34,none⟩)]))) (h:w.cell? t=some D) (M:w.frozen? t=false) :
  Calls Tryz.prog 63 #[.iface 37 (FR FS e),.iface 135 (FO (some t))] w fun ev w'=>ev=FP (.bool true)∧((((w.alloc (FQ #[FO (some t)] 135)).alloc (FQ #[pH 135,FO (some ⟨w.heap.size,0,none⟩),.int .u64 150] 169)).alloc (FQ #[pH 135,FO (some ⟨w.heap.size,0,none⟩),.int .u64 150] 169)).alloc (FQ #[FR FS e] 37)).setCell t (FR FS e)=w':=by
 have h6:= @run_callFunc_extern Tryz.prog 93 _ (fun args=>ReflectliteValue.unpack (args.getD 0 (.tuple #[]))) Tryz.func93 (by kernel_rfl) (by kernel_rfl) (by kernel_rfl) (by kernel_rfl);have h7:= @run_callFunc_extern Tryz.prog 94 _ (ReflectliteValue.methodAny (ReflectliteValue.valueError "reflectlite.Value.Type" 0) (fun t _ _ _=>ReflectliteType.toType t)) Tryz.func94 (by kernel_rfl) (by kernel_rfl) (by kernel_rfl) (by kernel_rfl);have h8:= @run_callFunc_extern Tryz.prog 95 _ (ReflectliteValue.method (ReflectliteValue.valueError "reflectlite.Value.IsNil" 0) ReflectliteValue.isNil) Tryz.func95 (by kernel_rfl) (by kernel_rfl) (by kernel_rfl) (by kernel_rfl);have a5:= @run_callFunc_extern Tryz.prog 220 _ (ReflectliteType.abiMethod fun t=>do pure (.int .u8 (← Rtype.kind t))) Tryz.func220 (by kernel_rfl) (by kernel_rfl) (by kernel_rfl) (by kernel_rfl);have a6:= @run_callFunc_extern Tryz.prog 232 _ (ReflectliteType.method ReflectliteType.elem) Tryz.func232 (by kernel_rfl) (by kernel_rfl) (by kernel_rfl) (by kernel_rfl);have a2:= @run_callFunc_extern Tryz.prog 233 _ (ReflectliteType.relation "Implements" ReflectliteType.implements_) Tryz.func233 (by kernel_rfl) (by kernel_rfl) (by kernel_rfl) (by kernel_rfl);have ad:= @run_callFunc_extern Tryz.prog 135 _ ReflectliteType.typeOf Tryz.func135 (by kernel_rfl) (by kernel_rfl) (by kernel_rfl) (by kernel_rfl);have a1:= @run_callFunc_extern Tryz.prog 230 _ (ReflectliteType.relation "AssignableTo" ReflectliteType.assignableTo) Tryz.func230 (by kernel_rfl) (by kernel_rfl) (by kernel_rfl) (by kernel_rfl);have aA:= @run_callFunc_extern Tryz.prog 136 _ (ReflectliteValue.method (ReflectliteValue.valueError "reflectlite.Value.Elem" 0) ReflectliteValue.elem) Tryz.func136 (by kernel_rfl) (by kernel_rfl) (by kernel_rfl) (by kernel_rfl);have a0:= @run_callFunc_extern Tryz.prog 137 _ ReflectliteValue.set Tryz.func137 (by kernel_rfl) (by kernel_rfl) (by kernel_rfl) (by kernel_rfl);have tO:=ov;have mA:=eD;have av:=jr;have O:=mF;have f6:=mD;have f7:=s9
 have mK:=j8;have mE:=j9;have mI:=ft;have a4:=tb;have Fq:=tc;have a3:=tf;have Z:=jq;have n8:=qy ⟨w.heap.size,0,none⟩ t ((w.alloc (FQ #[FO (some t)] 135)).alloc (FQ #[pH 135,FO (some ⟨w.heap.size,0,none⟩),.int .u64 150] 169)) (by simp);have J:2<w.heap.size:=FC w ⟨2,0,none⟩ N;have U:((w.alloc (FQ #[FO (some t)] 135)).alloc (FQ #[pH 135,FO (some ⟨w.heap.size,0,none⟩),.int .u64 150] 169)).cell? ⟨2,0,none⟩=some (.iface 208 (.agg #[FO (some ⟨13,34,none⟩)])):=by
  rw[World.cell?_alloc_lt _ _ ⟨2,0,none⟩ (show 2<_ by rw[World.heap_size_alloc'];omega),World.cell?_alloc_lt _ _ ⟨2,0,none⟩ J];exact N
 have I:t.block<w.heap.size:=FC w t h;have el:=qz ⟨w.heap.size,0,none⟩ t (((w.alloc (FQ #[FO (some t)] 135)).alloc (FQ #[pH 135,FO (some ⟨w.heap.size,0,none⟩),.int .u64 150] 169)).alloc (FQ #[pH 135,FO (some ⟨w.heap.size,0,none⟩),.int .u64 150] 169)) (by rw[World.cell?_alloc_lt _ _ ⟨w.heap.size,0,none⟩ (by simp;omega)];simp);have st:=wv t ⟨w.heap.size+1+1+1,0,none⟩ e D ((((w.alloc (FQ #[FO (some t)] 135)).alloc (FQ #[pH 135,FO (some ⟨w.heap.size,0,none⟩),.int .u64 150] 169)).alloc (FQ #[pH 135,FO (some ⟨w.heap.size,0,none⟩),.int .u64 150] 169)).alloc (FQ #[FR FS e] 37))
  (by rw[World.cell?_alloc_at _ _ _ _ (by simp)];rfl)
  (by rw[World.cell?_alloc_lt _ _ t (by simp;omega),World.cell?_alloc_lt _ _ t (by simp;omega),World.cell?_alloc_lt _ _ t (by simp;omega),World.cell?_alloc_lt _ _ t I];exact h)
  (by rw[World.frozen?_alloc_old _ _ t (by simp;omega),World.frozen?_alloc_old _ _ t (by simp;omega),World.frozen?_alloc_old _ _ t (by simp;omega),World.frozen?_alloc_old _ _ t (Nat.ne_of_lt I)];exact M)
 go_enter Tryz.func63,Tryz.ntmps63
 go_wp2;refine wp_loop_rounds 1 ?_;rw[rounds_succ];go_wp2;go_ret;exact ⟨rfl,rfl⟩
end
section
open Go.RowKit Go.Extern.Stop Go.Stop Go.Extern
theorem uX (v:Value) (w:World):(ReflectliteType.typeOf #[.iface 73 v]).run Tryz.prog w= .ok (.iface 208 (.agg #[FO (some ⟨13,73,none⟩)])) w:=by kernel_rfl
theorem ow (w:World):(ReflectliteType.relation "AssignableTo" ReflectliteType.assignableTo #[.agg #[FO (some ⟨13,73,none⟩)],.iface 208 (.agg #[FO (some ⟨13,37,none⟩)])]).run Tryz.prog w= .ok (.bool false) w:=by kernel_rfl
theorem D7 (v:Value) (w:World):(Instr.typeAssert (.iface 73 v) 34 213 true).run Tryz.prog w= .ok (.tuple #[.nilIface,.bool false]) w:=run_typeAssert_lacksB Tryz.underlying213 (by kernel_rfl) (by kernel_rfl) v _ w
theorem D8 (v:Value) (w:World):(Instr.typeAssert (.iface 73 v) 34 216 true).run Tryz.prog w= .ok (.tuple #[.iface 73 v,.bool true]) w:=run_typeAssert_hasB Tryz.underlying216 (by kernel_rfl) v _ w
theorem tg (a:Addr) (w:World):(Go.method 419 73 (FO (some a)) "Unwrap").run Tryz.prog w= .ok (225,FO (some a)) w:=by kernel_rfl
theorem xY (g:Nat) (e:Int) (w:World) (h:w.cell? ⟨g,0,none⟩=some (FR FS e)):Calls Tryz.prog 225 #[FO (some ⟨g,0,none⟩)] w fun D w'=>D=FP (.iface 37 (FR FS e))∧w=w':=by
 have I:=FC _ _ h;go_enter Tryz.func225,Tryz.ntmps225
 go_wp2;go_ret;exact ⟨rfl,rfl⟩
theorem EJ (g:Nat) (e:Int) (t:Addr) (I:Value) (w:World) (Z:w.cell? ⟨2,0,none⟩=some (.iface 208 (.agg #[FO (some ⟨13,34,none⟩)]))) (M:w.cell? ⟨g,0,none⟩=some (FR FS e)) (h:w.cell? t=some I) (U:w.frozen? t=false) :
  Calls Tryz.prog 63 #[.iface 73 (FO (some ⟨g,0,none⟩)),.iface 135 (FO (some t))] w fun ev w'=>ev=FP (.bool true)∧((((w.alloc (FQ #[FO (some t)] 135)).alloc (FQ #[pH 135,FO (some ⟨w.heap.size,0,none⟩),.int .u64 150] 169)).alloc (FQ #[pH 135,FO (some ⟨w.heap.size,0,none⟩),.int .u64 150] 169)).alloc (FQ #[FR FS e] 37)).setCell t (FR FS e)=w':=by
 have h6:= @run_callFunc_extern Tryz.prog 93 _ (fun args=>ReflectliteValue.unpack (args.getD 0 (.tuple #[]))) Tryz.func93 (by kernel_rfl) (by kernel_rfl) (by kernel_rfl) (by kernel_rfl);have h7:= @run_callFunc_extern Tryz.prog 94 _ (ReflectliteValue.methodAny (ReflectliteValue.valueError "reflectlite.Value.Type" 0) (fun t _ _ _=>ReflectliteType.toType t)) Tryz.func94 (by kernel_rfl) (by kernel_rfl) (by kernel_rfl) (by kernel_rfl);have h8:= @run_callFunc_extern Tryz.prog 95 _ (ReflectliteValue.method (ReflectliteValue.valueError "reflectlite.Value.IsNil" 0) ReflectliteValue.isNil) Tryz.func95 (by kernel_rfl) (by kernel_rfl) (by kernel_rfl) (by kernel_rfl);have a9:= @run_callFunc_extern Tryz.prog 220 _ (ReflectliteType.abiMethod fun t=>do pure (.int .u8 (← Rtype.kind t))) Tryz.func220 (by kernel_rfl) (by kernel_rfl) (by kernel_rfl) (by kernel_rfl);have ba:= @run_callFunc_extern Tryz.prog 232 _ (ReflectliteType.method ReflectliteType.elem) Tryz.func232 (by kernel_rfl) (by kernel_rfl) (by kernel_rfl) (by kernel_rfl);have a6:= @run_callFunc_extern Tryz.prog 233 _ (ReflectliteType.relation "Implements" ReflectliteType.implements_) Tryz.func233 (by kernel_rfl) (by kernel_rfl) (by kernel_rfl) (by kernel_rfl);have a1:= @run_callFunc_extern Tryz.prog 135 _ ReflectliteType.typeOf Tryz.func135 (by kernel_rfl) (by kernel_rfl) (by kernel_rfl) (by kernel_rfl);have a5:= @run_callFunc_extern Tryz.prog 230 _ (ReflectliteType.relation "AssignableTo" ReflectliteType.assignableTo) Tryz.func230 (by kernel_rfl) (by kernel_rfl) (by kernel_rfl) (by kernel_rfl);have a3:= @run_callFunc_extern Tryz.prog 136 _ (ReflectliteValue.method (ReflectliteValue.valueError "reflectlite.Value.Elem" 0) ReflectliteValue.elem) Tryz.func136 (by kernel_rfl) (by kernel_rfl) (by kernel_rfl) (by kernel_rfl);have a4:= @run_callFunc_extern Tryz.prog 137 _ ReflectliteValue.set Tryz.func137 (by kernel_rfl) (by kernel_rfl) (by kernel_rfl) (by kernel_rfl);have tO:=ov;have mA:=eD;have a2:=jr;have ad:=mF;have f6:=mD;have f7:=s9
 have mK:=j8;have mE:=j9;have mI:=ft;have a8:=tb;have Fq:=tc;have a7:=tf;have a0:=jq;have n8:=qy ⟨w.heap.size,0,none⟩ t ((w.alloc (FQ #[FO (some t)] 135)).alloc (FQ #[pH 135,FO (some ⟨w.heap.size,0,none⟩),.int .u64 150] 169)) (by simp);have O:2<w.heap.size:=FC w ⟨2,0,none⟩ Z;have av:((w.alloc (FQ #[FO (some t)] 135)).alloc (FQ #[pH 135,FO (some ⟨w.heap.size,0,none⟩),.int .u64 150] 169)).cell? ⟨2,0,none⟩=some (.iface 208 (.agg #[FO (some ⟨13,34,none⟩)])):=by
  rw[World.cell?_alloc_lt _ _ ⟨2,0,none⟩ (show 2<_ by rw[World.heap_size_alloc'];omega),World.cell?_alloc_lt _ _ ⟨2,0,none⟩ O];exact Z
 have J:t.block<w.heap.size:=FC w t h;have el:=qz ⟨w.heap.size,0,none⟩ t (((w.alloc (FQ #[FO (some t)] 135)).alloc (FQ #[pH 135,FO (some ⟨w.heap.size,0,none⟩),.int .u64 150] 169)).alloc (FQ #[pH 135,FO (some ⟨w.heap.size,0,none⟩),.int .u64 150] 169)) (by rw[World.cell?_alloc_lt _ _ ⟨w.heap.size,0,none⟩ (by simp;omega)];simp);have st:=wv t ⟨w.heap.size+1+1+1,0,none⟩ e I ((((w.alloc (FQ #[FO (some t)] 135)).alloc (FQ #[pH 135,FO (some ⟨w.heap.size,0,none⟩),.int .u64 150] 169)).alloc (FQ #[pH 135,FO (some ⟨w.heap.size,0,none⟩),.int .u64 150] 169)).alloc (FQ #[FR FS e] 37))
  (by rw[World.cell?_alloc_at _ _ _ _ (by simp)];rfl)
  (by rw[World.cell?_alloc_lt _ _ t (by simp;omega),World.cell?_alloc_lt _ _ t (by simp;omega),World.cell?_alloc_lt _ _ t (by simp;omega),World.cell?_alloc_lt _ _ t J];exact h)
  (by rw[World.frozen?_alloc_old _ _ t (by simp;omega),World.frozen?_alloc_old _ _ t (by simp;omega),World.frozen?_alloc_old _ _ t (by simp;omega),World.frozen?_alloc_old _ _ t (Nat.ne_of_lt J)];exact U)
 have tA:=uX;have aA:=ow;have sA:=D7;have uA:=D8;have mU:=tg ⟨g,0,none⟩;have N:g<w.heap.size:=FC w ⟨g,0,none⟩ M;have D:(((w.alloc (FQ #[FO (some t)] 135)).alloc (FQ #[pH 135,FO (some ⟨w.heap.size,0,none⟩),.int .u64 150] 169)).alloc (FQ #[pH 135,FO (some ⟨w.heap.size,0,none⟩),.int .u64 150] 169)).cell? ⟨g,0,none⟩=some (FR FS e):=by
  rw[World.cell?_alloc_lt _ _ ⟨g,0,none⟩ (show g<_ by rw[World.heap_size_alloc',World.heap_size_alloc'];omega),World.cell?_alloc_lt _ _ ⟨g,0,none⟩ (show g<_ by rw[World.heap_size_alloc'];omega),World.cell?_alloc_lt _ _ ⟨g,0,none⟩ N];exact M
 go_enter Tryz.func63,Tryz.ntmps63
 go_wp2;refine wp_loop_rounds 2 ?_;rw[rounds_succ];go_wp2_with fail
 refine (xY g e _ D).mono ?_;rintro ev W2 ⟨rfl,rfl⟩;go_wp2;rw[rounds_succ];go_wp2;go_ret;exact ⟨rfl,rfl⟩
end
section
section
variable {α:Type} {le:α→α→Bool}
def Df (le:α→α→Bool) (bs:Nat):Nat→List α→List α
 | 0,l=>eh le l
 | k+1,l=>if l.length≤bs then eh le l else eh le (l.take bs)++Df le bs k (l.drop bs)
def nb (le:α→α→Bool) (bs:Nat) (l:List α):List α:=Df le bs l.length l
theorem ii {bs k:Nat} {l:List α} (h:l.length≤bs):Df le bs k l=eh le l:=by
 cases k with
 | zero=>rfl
 | succ k=>exact if_pos h
theorem tI {bs:Nat} (D:0<bs):∀ {k m:Nat} {l:List α},l.length≤k→l.length≤m→Df le bs k l=Df le bs m l
 | 0,m,l,h,_=>by rw[ii (l:=l) (by omega),ii (l:=l) (by omega)]
 | k+1,0,l,_,_=>by rw[ii (l:=l) (by omega),ii (l:=l) (by omega)]
 | k+1,m+1,l,I,M=>by
  unfold Df;split
  ·rfl
  rename_i J;rw[tI D (k:=k) (m:=m) (by rw[List.length_drop];omega) (by rw[List.length_drop];omega)]
theorem eP {bs:Nat} {l:List α} (h:l.length≤bs):nb le bs l=eh le l:=ii h
theorem jA {bs:Nat} (M:0<bs) {l:List α} (h:bs≤l.length):nb le bs l=eh le (l.take bs)++nb le bs (l.drop bs):=by
 rcases Nat.lt_or_ge bs l.length with J|D
 ·unfold nb
  obtain ⟨k,I⟩:∃ k,l.length=k+1:=⟨l.length-1,by omega⟩
  rw[I];show (if l.length≤bs then _ else _)=_;rw[if_neg (by omega),tI M (k:=k) (m:=(l.drop bs).length) (by rw[List.length_drop];omega) (Fy _)]
 have e:l.drop bs=[]:=List.drop_eq_nil_of_le D;rw[eP D,e,List.take_of_length_le D,eP (FF _)];simp[eh]
theorem wG {bs:Nat}:∀ (k:Nat) (l:List α),(Df le bs k l).length=l.length
 | 0,l=>bJ l
 | k+1,l=>by
  unfold Df;split
  ·exact bJ l
  rw[Fz,bJ,wG k,FH,List.length_drop];omega
theorem Cp {bs:Nat} (l:List α):(nb le bs l).length=l.length:=wG _ l
theorem Cq (I:iX le) {bs:Nat} (D:0<bs) {l:List α} (h:2*bs≤l.length):nb le bs l=eh le (l.take bs)++(eh le ((l.drop bs).take bs)++nb le bs (l.drop (2*bs)))∧mg le (eh le (l.take bs)) (eh le ((l.drop bs).take bs))=eh le (l.take (2*bs)):=by
 refine ⟨?_,?_⟩
 ·rw[jA D (by omega),jA D (l:=l.drop bs) (by rw[List.length_drop];omega),List.drop_drop,show bs+bs=2*bs by omega]
 rw[←nI I];congr 1
 rw[show 2*bs=bs+bs by omega,List.take_add]
theorem AP (h:iX le) {bs:Nat} (I:0<bs) {l:List α} (D:bs≤l.length) (J:l.length≤2*bs):nb le bs l=eh le (l.take bs)++eh le (l.drop bs)∧mg le (eh le (l.take bs)) (eh le (l.drop bs))=eh le l:=by
 refine ⟨?_,?_⟩
 ·rw[jA I D,eP (l:=l.drop bs) (by rw[List.length_drop];omega)]
 rw[←nI h,List.take_append_drop]
end
end
section
open Go.RowKit
theorem Hd.et:Tryz.prog.globalNamed "errors.errorType" = some 2:=by kernel_rfl
theorem Hd.rt:(Tryz.prog.cutTypes.find? (·.1 == "internal/reflectlite.rtype")).map (·.2)=some 208:=by kernel_rfl
theorem Hd.oneRow:((List.range 319).filter fun t=>Tryz.prog.rowNamed t [101,114,114,111,114])=[34]:=by kernel_rfl
theorem Hd.size:Tryz.prog.types.size=319:=by kernel_rfl
theorem zq {D:List (String×DataW Unit)} (I:("errors.errorType",Rows.laid_errors_errorType)∈D) {W:World} (h:handlesMet Tryz.prog D W):iJ W:=by
 obtain ⟨name,u,U,M,Z,e3,N,J⟩:=h _ I;have O:name=[101,114,114,111,114]:=(Option.some.inj M).symm;subst O;obtain rfl:=Option.some.inj (Hd.rt.symm.trans Z);have I:U∈(List.range 319).filter fun t=>Tryz.prog.rowNamed t [101,114,114,111,114]:=List.mem_filter.2 ⟨List.mem_range.2 (by rw[←Hd.size];exact e3),N⟩
 rw[Hd.oneRow] at I;obtain rfl:=List.mem_singleton.1 I;have hh:typeHandle Tryz.prog 34= .pointer (some ⟨13,34,none⟩):=by kernel_rfl
 rw[hh] at J;show W.cell? _=_;simpa using World.var?_cell Hd.et J 0
def CX (w0:World):World :=
 { w0 with heap:=w0.heap.modify 2 fun
   | .cells _ t h=> .cells #[.iface 208 (.agg #[.pointer (some ⟨13,34,none⟩)])] t h
   | o=>o }
end
end Go.Proofs.YtecpeogejjibaaaGreatDoor
