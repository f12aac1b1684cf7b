/- Columns and values compared as wholes. slices.Equal at columns. Maps of integers to values of whatever kind, by run equations. No program in sight. Maps of texts to values of whatever kind, as lists of what was put (the last first): by run equations; how many there are; a range over one. No program in sight. A map of texts that stands in memory: its names and its values. No program in sight. Stable sorting as plain lists: merges, what their pieces are, one sort alone. No program in sight. The order by which ops.sorted sorts; plain. Structs of many cells that are boxed inside a region: loads and stores of all cells at once, by short words. No program in sight. Slices put behind one another: append of whatever slice, and a new row of zeros; no program in sight. errors.As at the target *api.Errno, where the error is nil or an api.Errno itself. api.Tell and plain.Place at nil and at an *api.At. Sorting by chunks: each sorted alone; neighbours merged; plain. The handle of the type error, out of a row's condition; a world in which it is laid. -/
import Derived.Test.YtecpeogejjibaaaGreatDoorEtnM1
import Derived.Maps.Own
import Derived.Maps.OwnSet
import Derived.Maps.RangeWalk
import Derived.Maps.Keyed
import Derived.Maps.Views
import Derived.Maps.Range
import Derived.Lib.Hide
import Derived.Laws.IdiomCopy
import Derived.Deep.MidRow
import Derived.Maps.AppendAt
import Derived.Lib.SlFresh
import Derived.Lib.AppendZeros
import Derived.Lib.AppendZerosOnto
import Derived.OwnWalk
import Derived.Test.YtecpeogejjibaaaGreatDoorProg
import Derived.LaidEql
import Derived.Stop.Asserts
import Derived.RowKitTokens
set_option linter.unusedSimpArgs false
set_option linter.unusedVariables false
set_option maxRecDepth 100000
set_option maxHeartbeats 16000000
namespace Go.Proofs.YtecpeogejjibaaaGreatDoor
open Go.Lib renaming hid → Fk
open _root_.Nat renaming le_refl → Fm, zero_le → Fu
open _root_.List renaming length_append → Fo, length_cons → Fv, length_take → Fw
open Go.World renaming block_lt_of_cell? → Fq
open aa renaming refl → Fz
open ao renaming new → FA
open Go.Value renaming string → FC, slice → FD, pointer → FE, int → FH
open Go.Ending renaming returned → FF
open Go.Obj renaming cells → FG
open Go.IntKind renaming i64 → FI
section
open Go.RowKit
attribute [local go_sem] ag ab ae af
theorem EZ (a b:Cl) (W:World):(binOp .neq 64 (.agg #[FC (bs a.name),FH FI a.kind]) (.agg #[FC (bs b.name),FH FI b.kind])).run Tryz.prog W= .ok (.bool (!decide (a=b))) W:=by
 have hd:decide (a=b)=(decide (a.name=b.name)&&decide (a.kind=b.kind)):=by
  obtain ⟨n,k⟩:=a;obtain ⟨H,I⟩:=b;rw[Bool.eq_iff_iff];simp
 rw[hd];simp[go_sem];by_cases D:a.name=b.name<;>by_cases h:a.kind=b.kind<;>simp[D,h,go_sem]
theorem Di (a b:Vl) (W:World):(binOp .neq 46 (.agg #[FH FI a.kind,FH FI a.num,FC (bs a.word)]) (.agg #[FH FI b.kind,FH FI b.num,FC (bs b.word)])).run Tryz.prog W= .ok (.bool (!decide (a=b))) W:=by
 have hd:decide (a=b)=(decide (a.kind=b.kind)&&decide (a.num=b.num)&&decide (a.word=b.word)):=by
  obtain ⟨k,n,s⟩:=a;obtain ⟨J,I,M⟩:=b;rw[Bool.eq_iff_iff];simp[and_assoc]
 rw[hd];simp[go_sem];by_cases H:a.kind=b.kind<;>by_cases D:a.num=b.num<;>by_cases h:a.word=b.word<;>simp[H,D,h,go_sem]
theorem im (l m:List Cl) (A B:Option Addr) (c d:Nat) (w:World) (hA:Rd w [] 2 A l.length (ai l)) (hB:Rd w [] 2 B m.length (ai m)) (hl:l.length≤4294967296) (hm:m.length≤4294967296) :
  Calls Tryz.prog 14 #[FD A l.length c,FD B m.length d] w fun e w'=>e=FF (.bool (decide (l=m)))∧aa [] w w':=by
 have HA:=Fk hA;have HB:=Fk hB;clear hA hB;by_cases D:l.length=m.length
 ·have t1:((l.length:Int) != (m.length:Int))=false:=by rw[D];simp
  have t2:(l.length != m.length)=false:=by rw[D];simp
  have HL:=Fk D;clear D;go_enter Tryz.func14,Tryz.ntmps14
  go_wp2;go_loopw [13] (fun i wr=>∃ n:Nat,n≤l.length∧i=FH FI n∧Hid (l.take n=m.take n)∧aa [] w wr) (fun i _=>l.length-(intOf i).toNat)
  case atStart=>exact ⟨0,Fu _,rfl,by rw[List.take_zero,List.take_zero];exact rfl,Fz _ _⟩
  obtain ⟨n,hn,rfl,ad,V⟩:=hrel;by_cases N:n<l.length
  ·have M:n<m.length:=by rw[←HL.out];exact N
   obtain ⟨b,o,rfl,_,hb,hc⟩:=(HA.out.keep V).open' (by omega) (by omega);obtain ⟨b2,o2,rfl,_,av,U⟩:=(HB.out.keep V).open' (by omega) (by omega);have d1:=hc (n*2) _ (aN l n N).1;have d2:=hc (n*2+1) _ (aN l n N).2;have e1:=U (n*2) _ (aN m n M).1;have e2:=U (n*2+1) _ (aN m n M).2;rw[←Nat.add_assoc] at d2 e2;have a0:(0:Int)≤(n:Int):=by omega
   have a1:(n:Int)<(l.length:Int):=by omega
   have aA:(n:Int)<(m.length:Int):=by omega
   have O:l.take (n+1)=l.take n++[l[n]]:=List.take_succ_eq_append_getElem N;have I:m.take (n+1)=m.take n++[m[n]]:=List.take_succ_eq_append_getElem M;have J:l[n]≠m[n]→decide (l=m)=false:=fun h=>by
    rw[decide_eq_false_iff_not];rintro rfl;exact h rfl
   have hq:=EZ l[n] m[n];generalize l[n]=x at *;generalize m[n]=y at *;clear hc U;by_cases H:x=y
   ·have hno':Hid (l.take (n+1)=m.take (n+1)):=Fk (by rw[O,I,ad.out,H])
    rw[decide_eq_true H] at hq;clear O I J H;go_wp2_with fail
    go_quiet (fail)
    go_wp2;go_roundw
    case rel=>exact ⟨n+1,by omega,by go_num,hno',V.drewN _⟩
    case measure=>simp[intOf];omega
   have HD:=Fk (J H);rw[decide_eq_false H] at hq;clear O I J H;go_wp2_with fail
   go_quiet (fail)
   go_wp2;go_ret;exact ⟨by rw[HD.out];rfl,V.drewN _⟩
  have Z:Hid (decide (l=m)=true):=Fk (by
   have h:=ad.out;rw[List.take_of_length_le (by omega),List.take_of_length_le (by rw[←HL.out];omega)] at h;exact decide_eq_true h)
  go_wp2;go_ret;exact ⟨by rw[Z.out];rfl,V⟩
 have t1:((l.length:Int) != (m.length:Int))=true:=by rw[bne_iff_ne];omega
 have t2:(l.length != m.length)=true:=by rw[bne_iff_ne];exact D
 have HD:Hid (decide (l=m)=false):=Fk (by rw[decide_eq_false_iff_not];rintro rfl;exact D rfl);clear D;go_enter Tryz.func14,Tryz.ntmps14
 go_wp2;go_ret;exact ⟨by rw[HD.out];rfl,Fz _ _⟩
end
section
open Go.RowKit Go.Maps
def mX (v:Value):Option (DataW Value×List MemPlace):=some (.held v,[])
def gn (P:Program) (K:TypeId) (w:World) (b n:Nat) (m:Int→Option Value):Prop :=
 ∃ D:DataW Value,w.ownsMap P K mX b n D∧∀ k:Int,(Lit.int .i64 k).wf=true→Maps.has D (.int .i64 k)=(m k).isSome∧∀ v,m k=some v→∀ z,D.atKey (.int .i64 k) z= .held v
section
variable {P:Program} {T K E:TypeId} {w w':World} {b n:Nat} {m:Int→Option Value}
theorem gn.lt (h:gn P K w b n m):b<w.heap.size:=by obtain ⟨D,h,_⟩:=h;exact h.lt
theorem gn.made (w:World):gn P K (w.alloc (.map #[] 0)) w.heap.size 0 fun _=>none :=
 ⟨_,World.ownsMap_made w _ _ _,fun k _=>⟨rfl,fun _ h=>by cases h⟩⟩
theorem gn.of_block (h:gn P K w b n m) (I:w'.heap[b]? = w.heap[b]?):gn P K w' b n m:=by
 obtain ⟨D,⟨N,H,O,M⟩,J⟩:=h;exact ⟨D,⟨N,H,I.trans O,M⟩,J⟩
theorem gn.keep {L:List Nat} (h:gn P K w b n m) (H:aa L w w') (D:b∉L):gn P K w' b n m:=h.of_block (H.block b h.lt D)
theorem gn.mono (h:gn P K w b n m) {n':Nat} (J:n≤n'):gn P K w b n' m:=by
 obtain ⟨D,H,I⟩:=h;exact ⟨D,H.mono J,I⟩
theorem gn.congr {D:Int→Option Value} (h:gn P K w b n m) (e:m=D):gn P K w b n D:=e ▸ h
theorem gn.look (h:gn P K w b n m) (hT:P.underlying T=some (.map K E)) (N:P.underlying K=some (.int .i64)) {z:Value} (V:(zeroValue E).run P w= .ok z w) (k:Int) (J:(Lit.int .i64 k).wf=true) :
  (Instr.lookup T (.map (some b)) (.int .i64 k) false).run P w= .ok ((m k).getD z) w:=by
 obtain ⟨D,Z,O⟩:=h;have H:keyOf P K (.int .i64 k)=some (.int .i64 k):=keyOf_int_mk N J;obtain ⟨v,ps,I,M⟩:=Z.lookup (int_keyed N) hT V (zd:= .held z) (zp:=[]) rfl H;rw[I];have hv':DataW.held v=D.atKey (.int .i64 k) (.held z):=by
  injection M with M;exact congrArg Prod.fst M
 cases U:m k with
 | some u =>
  rw[(O k J).2 u U] at hv';injection hv' with e;rw[e];rfl
 | none =>
  have h0:Maps.has D (.int .i64 k)=false:=by rw[(O k J).1,U];rfl
  rw[atKey_of_not_has h0] at hv';injection hv' with e;rw[e];rfl
theorem gn.store (h:gn P K w b n m) (hT:P.underlying T=some (.map K E)) (U:P.underlying K=some (.int .i64)) (k:Int) (v:Value) (hk:(Lit.int .i64 k).wf=true) (hn:n<maxLen) :
  ∃ w',(Instr.mapUpdate T (.map (some b)) (.int .i64 k) v).run P w= .ok () w'∧gn P K w' b (n+1) (fun x=>if x=k then some v else m x)∧w.grownBy w' (some b):=by
 obtain ⟨D,Z,V⟩:=h;have J:keyOf P K (.int .i64 k)=some (.int .i64 k):=keyOf_int_mk U hk;obtain ⟨w',M,h3,h4⟩:=Z.update (int_keyed U) hT hn J (d:= .held v) (ps:=[]) rfl;have hm:=Z.isMap;refine ⟨w',M,⟨_,h3,fun x I=>?_⟩,h4⟩;by_cases N:x=k
 ·subst N
  simp only[if_pos];exact ⟨by rw[has_put_same hm (by trivial)];rfl,fun u O z=>by
   cases O
   rw[atKey_put_same hm (by trivial)]⟩
 have H:(Lit.int IntKind.i64 x)≠Lit.int .i64 k:=fun e=>N (by injection e)
 simp only[if_neg N];refine ⟨?_,fun u O z=>?_⟩
 ·rw[has_put_other H];exact (V x I).1
 rw[atKey_put_other H];exact (V x I).2 u O z
end
def mZ {β:Type}:List (Bs×β)→Nat
 | []=>0
 | x::m=>if (m.lookup x.1).isSome then mZ m else mZ m+1
theorem eM {β:Type} {m:List (Bs×β)} {k:Bs}:(m.lookup k).isSome=true↔k∈m.map (·.1):=by
 induction m with
 | nil=>simp
 | cons x m ih =>
  obtain ⟨a,b⟩:=x;rw[List.lookup_cons];by_cases h:k=a
  ·subst h;simp
  have:(k==a)=false:=by simpa using h
  rw[this];simp[ih,h]
theorem kh {β:Type}:∀ {m:List (Bs×β)},(m.map (·.1)).Nodup→mZ m=m.length
 | [],_=>rfl
 | x::m,h=>by
  rw[List.map_cons,List.nodup_cons] at h;have:¬(m.lookup x.1).isSome=true:=fun D=>h.1 (eM.1 D)
  rw[mZ,if_neg this,kh h.2,Fv]
def bA (P:Program) (S:TypeId) (w:World) (b:Nat) (m:List (Bs×Value)):Prop :=
 ∃ D:DataW Value,w.ownsMap P S mX b m.length D∧Maps.Tidy D∧Maps.size D=mZ m∧∀ k:Bs,Maps.has D (.string k)=(m.lookup k).isSome∧∀ v,m.lookup k=some v→∀ z,D.atKey (.string k) z= .held v
section
variable {P:Program} {T S E:TypeId} {w w':World} {b:Nat} {m:List (Bs×Value)}
theorem bA.lt (h:bA P S w b m):b<w.heap.size:=by obtain ⟨D,h,_⟩:=h;exact h.lt
theorem bA.made (w:World):bA P S (w.alloc (.map #[] 0)) w.heap.size [] :=
 ⟨_,World.ownsMap_made w _ _ _,Maps.tidy_empty,rfl,fun k=>⟨rfl,fun _ h=>by cases h⟩⟩
theorem bA.of_block (h:bA P S w b m) (I:w'.heap[b]? = w.heap[b]?):bA P S w' b m:=by
 obtain ⟨D,⟨N,H,O,M⟩,J⟩:=h;exact ⟨D,⟨N,H,I.trans O,M⟩,J⟩
theorem bA.keep {L:List Nat} (h:bA P S w b m) (H:aa L w w') (D:b∉L):bA P S w' b m:=h.of_block (H.block b h.lt D)
theorem bA.drew (h:bA P S w b m):bA P S w.drew b m:=h
theorem bA.look0 (h:bA P S w b m) (hT:P.underlying T=some (.map S E)) (M:P.underlying S=some .string) {z:Value} (V:(zeroValue E).run P w= .ok z w) (k:Bs) (U:k.length≤maxLen) :
  (Instr.lookup T (.map (some b)) (.string (bs k)) false).run P w= .ok ((m.lookup k).getD z) w:=by
 obtain ⟨D,Z,_,_,N⟩:=h;have H:keyOf P S (.string (bs k))=some (.string k):=WideMaps.keyOf_string_mk M (by rw[ag];exact U);obtain ⟨v,ps,I,J⟩:=Z.lookup (string_keyed M) hT V (zd:= .held z) (zp:=[]) rfl H;rw[I];have hv':DataW.held v=D.atKey (.string k) (.held z):=by
  injection J with J;exact congrArg Prod.fst J
 cases O:m.lookup k with
 | some u =>
  rw[(N k).2 u O] at hv';injection hv' with e;rw[e];rfl
 | none =>
  have h0:Maps.has D (.string k)=false:=by rw[(N k).1,O];rfl
  rw[atKey_of_not_has h0] at hv';injection hv' with e;rw[e];rfl
theorem bA.look (h:bA P S w b m) (hT:P.underlying T=some (.map S E)) (N:P.underlying S=some .string) {z:Value} (V:(zeroValue E).run P w= .ok z w) (k:Bs) (U:k.length≤maxLen) :
  (Instr.lookup T (.map (some b)) (.string (bs k)) true).run P w= .ok (.tuple #[(m.lookup k).getD z,.bool (m.lookup k).isSome]) w:=by
 obtain ⟨D,Z,_,_,J⟩:=h;have H:keyOf P S (.string (bs k))=some (.string k):=WideMaps.keyOf_string_mk N (by rw[ag];exact U);obtain ⟨v,ps,I,M⟩:=Z.look_ok (string_keyed N) hT V (zd:= .held z) (zp:=[]) rfl H;rw[I,(J k).1];have hv':DataW.held v=D.atKey (.string k) (.held z):=by
  injection M with M;exact congrArg Prod.fst M
 cases O:m.lookup k with
 | some u =>
  rw[(J k).2 u O] at hv';injection hv' with e;rw[e];rfl
 | none =>
  have h0:Maps.has D (.string k)=false:=by rw[(J k).1,O];rfl
  rw[atKey_of_not_has h0] at hv';injection hv' with e;rw[e];rfl
theorem ki {β:Type} (m:List (Bs×β)) (k:Bs) (v:β) (x:Bs):((k,v)::m).lookup x=if x=k then some v else m.lookup x:=by
 rw[List.lookup_cons];by_cases h:x=k
 ·subst h;simp
 have:(x==k)=false:=by simpa using h
 rw[this,if_neg h]
theorem bA.store (h:bA P S w b m) (hT:P.underlying T=some (.map S E)) (V:P.underlying S=some .string) (k:Bs) (v:Value) (Z:k.length≤maxLen) (hn:m.length<maxLen) :
  ∃ w',(Instr.mapUpdate T (.map (some b)) (.string (bs k)) v).run P w= .ok () w'∧bA P S w' b ((k,v)::m)∧w.grownBy w' (some b):=by
 obtain ⟨D,h1,M,hs,N⟩:=h;have I:keyOf P S (.string (bs k))=some (.string k):=WideMaps.keyOf_string_mk V (by rw[ag];exact Z);obtain ⟨w',J,h3,h4⟩:=h1.update (string_keyed V) hT hn I (d:= .held v) (ps:=[]) rfl;refine ⟨w',J,⟨_,h3,M.put (by trivial) _,?_,fun x=>?_⟩,h4⟩
 ·rw[size_put M,hs,(N k).1]
  rfl
 rw[ki];by_cases O:x=k
 ·subst O
  simp only[if_pos];exact ⟨by rw[has_put_same M.isMap (by trivial)];rfl,fun u U z=>by
   cases U
   rw[atKey_put_same M.isMap (by trivial)]⟩
 have H:(Lit.string x)≠Lit.string k:=fun e=>O (by injection e)
 simp only[if_neg O];refine ⟨?_,fun u U z=>?_⟩
 ·rw[has_put_other H];exact (N x).1
 rw[atKey_put_other H];exact (N x).2 u U z
theorem bA.len (h:bA P S w b m) (J:P.underlying T=some (.map S E)) (H:TypeId):(Builtin.len_ #[T] H #[.map (some b)]).run P w= .ok (.int .i64 (mZ m)) w:=by
 obtain ⟨D,M,_,I,_⟩:=h;rw[M.len J H,I]
def fg (P:Program) (S:TypeId) (w:World) (b r:Nat) (m:List (Bs×Value)) (L:Bs→Bool) (h:Nat):Prop :=
 ∃ D:DataW Value,∃ left,w.ranges P S mX b r m.length D left h∧(∀ k,left (.string k)=L k)∧∀ k:Bs,Maps.has D (.string k)=(m.lookup k).isSome∧∀ v,m.lookup k=some v→∀ z,D.atKey (.string k) z= .held v
theorem fg.left_eq {r H:Nat} {L:Bs→Bool} (h:fg P S w b r m L H):w.rangeLeft b r=H:=by
 obtain ⟨D,left,I,_⟩:=h;exact I.left_eq
theorem fg.lt {r H:Nat} {L:Bs→Bool} (h:fg P S w b r m L H):r<w.heap.size:=by
 obtain ⟨D,left,I,_⟩:=h;exact I.lt
theorem fg.kept {r J:Nat} {L:Bs→Bool} {M:List Nat} (h:fg P S w b r m L J) (O:aa M w w') (Z:b∉M) (V:r∉M):fg P S w' b r m L J:=by
 obtain ⟨D,left,N,h3⟩:=h;refine ⟨D,left,?_,h3⟩;have hl:=N.lt;have hb:=N.owns.lt;obtain ⟨U,I,H,seen,c0,g1,g2,g3,g4,g5,g6⟩:=N;exact ⟨U,I,H,seen,c0,(O.block b hb Z).trans g1,g2,g3,g4,(O.block r hl V).trans g5,g6⟩
theorem gH (I:P.underlying S=some .string) {D:Value} {H:Lit} (h:keyOf P S D=some H):∃ k:Bs,D= .string (bs k)∧H= .string k:=by
 cases D<;>simp[keyOf,I,mapKey] at h
 case string s =>
  obtain ⟨_,rfl⟩:=h;exact ⟨s.data.toList,congrArg Value.string (wl s).symm,rfl⟩
theorem iX {H:Array Oper} {rest:List Oper} {o:Oper} {a:Act} {Q:Exit→Act→World→Prop} (M:o.guard=none) (x:Operand) (N:o.op=Op.range T x) (hT:P.underlying T=some (.map S E)) (V:P.underlying S=some .string)
  (hm:a.eval x= .map (some b)) (h:bA P S w b m)
  (U:∀ w',fg P S w' b w.heap.size m (fun k=>(m.lookup k).isSome) (mZ m)→aa [] w w'→w'.heap.size=w.heap.size+1→wpList P H Q rest (a.put o.dst (.pointer (some ⟨w.heap.size,0,none⟩))) w') :
  wpList P H Q (o::rest) a w:=by
 obtain ⟨D,Z,ht,hs,O⟩:=h;refine wpList_plain M fun K' J=>?_
 obtain ⟨w',I,r1,r2,r3⟩:=Z.range (string_keyed V) hT;unfold Oper.wp;simp[execOp,N,hm,I,Result.andThen];refine J _ _ (U w' ⟨D,_,by rw[←hs];exact r1,fun k=>(O k).1,O⟩ (aa.grown (Fz _ _) r2 (fun g M=>by cases M)) r3)
theorem jZ {O:Array Oper} {rest:List Oper} {o:Oper} {a:Act} {Q:Exit→Act→World→Prop} (V:o.guard=none) (it:Operand) (ad:o.op=Op.next it false) (hS:P.underlying S=some .string) {r N:Nat} {L:Bs→Bool}
  (Z:a.eval it= .pointer (some ⟨r,0,none⟩)) (h:fg P S w b r m L N)
  (hDone:N=0→(∀ k,L k=false)→wpList P O Q rest (a.put o.dst (.tuple #[.bool false])) w)
  (hMore:∀ (k:Bs) (v:Value) (w':World) (H:Nat),L k=true→m.lookup k=some v→fg P S w' b r m (fun x=>L x && !(x==k)) H→H<N→aa [r] w w'→w'.heap.size=w.heap.size →
   (Instr.entry (.pointer (some ⟨r,0,none⟩))).run P w'= .ok (.tuple #[.string (bs k),v]) w'→wpList P O Q rest (a.put o.dst (.tuple #[.bool true,.string (bs k),v])) w') :
  wpList P O Q (o::rest) a w:=by
 obtain ⟨D,left,hr,hL,h2⟩:=h;refine wpList_plain V fun K' U=>?_
 unfold Oper.wp;rcases hr.next (string_keyed hS) o.type with ⟨h0,hl,J⟩|⟨a7,v,kl,y,w',H,a0,a2,hv,aA,J,a3,a1,a5,a6,a4⟩
 ·simp[execOp,ad,Z,J,Result.andThen]
  exact U _ _ (hDone h0 fun k=>(hL k).symm.trans (hl _))
 obtain ⟨k,rfl,rfl⟩:=gH hS a0;simp[execOp,ad,Z,J,Result.andThen];have hy:y=(.held v,[]):=by injection hv with hv;exact hv.symm
 subst hy;have av:Maps.has D (.string k)=true:=has_true_of_atKey aA;have I:=(h2 k).1;rw[av] at I;obtain ⟨u,hu⟩:=Option.isSome_iff_exists.1 I.symm;have M:=(h2 k).2 u hu (.held v);rw[aA] at M;injection M with M;subst M;refine U _ _ (hMore k v w' H ((hL k).symm.trans a2) hu ⟨D,_,a3,fun x=>?_,h2⟩ a1 (aa.grown (Fz _ _) a5 (fun g V=> .inl (by injection V with V;simp[V]))) a6 a4);show (left (.string x) && !(Lit.string x).sameKey (.string k))=_;rw[hL x];rfl
end
theorem gI {β:Type} {m:List (Bs×β)} {k:Bs} {v:β} (H:(m.map (·.1)).Nodup) (h:(k,v)∈m):m.lookup k=some v:=by
 induction m with
 | nil=>cases h
 | cons q m ih =>
  obtain ⟨a,c⟩:=q;rw[List.map_cons,List.nodup_cons] at H;rw[List.lookup_cons];rcases List.mem_cons.1 h with h'|h'
  ·injection h' with J I
   subst J I;simp
  have D:k≠a:=fun e=>H.1 (List.mem_map.2 ⟨(k,v),h',e⟩)
  have:(k==a)=false:=by simpa using D
  rw[this];exact ih H.2 h'
theorem gp {β:Type} {m:List (Bs×β)} {k:Bs} {v:β} (h:m.lookup k=some v):(k,v)∈m:=by
 induction m with
 | nil=>cases h
 | cons q m ih =>
  obtain ⟨a,c⟩:=q;rw[List.lookup_cons] at h;by_cases D:k=a
  ·subst D
   simp only[beq_self_eq_true] at h;injection h with h;subst h;exact List.mem_cons_self ..
  have:(k==a)=false:=by simpa using D
  rw[this] at h;exact List.mem_cons_of_mem _ (ih h)
def na (P:Program) (S:TypeId) (x:MapEntry):Bs:=match keyOf P S x.key with
 | some (.string s)=>s
 | _=>[]
theorem bA.of_fit {P:Program} {S:TypeId} {w:World} {b:Nat} {I:Array MapEntry} {cl:Nat} {H:Type} {R0:Value→Option (DataW H×List MemPlace)} (hb:w.heap[b]? = some (.map I cl)) (F:WideElems.Fit P S R0 I cl) (hS:P.underlying S=some .string) :
  ∃ mv:List (Bs×Value),mv.length=I.size∧bA P S w b mv∧(mv.map (·.1)).Nodup∧∀ p∈mv,∃ x∈I.toList,x.val=p.2∧x.key= .string (bs p.1):=by
 have K:=string_keyed hS;have F1:WideElems.Fit P S mX I cl:=⟨F.size,F.stamped,fun x D=>by
  obtain ⟨l,M⟩:=F.keys x D;exact ⟨(l,.held x.val),by simp[WideElems.rd,M,mX]⟩⟩
 have U:∀ x∈I.toList,keyOf P S x.key=some (.string (na P S x))∧x.key= .string (bs (na P S x)):=fun x D=>by
  obtain ⟨l,M⟩:=F.keys x D;obtain ⟨k,h1,rfl⟩:=gH hS M;unfold na;rw[M];exact ⟨rfl,h1⟩
 have J:∀ x∈I.toList,WideElems.rg P S mX x=(.string (na P S x),.held x.val):=fun x D=>by
  simp[WideElems.rg,WideElems.rd,(U x D).1,mX]
 have ad:w.ownsMap P S mX b I.size (.map ((I.toList.map (WideElems.rg P S mX)).foldr DataW.insert [])):=⟨I,cl,hb,F1,Fm _,rfl⟩;have V:∀ l:List MapEntry,(l.map fun x=>(na P S x,x.val)).map (·.1)=l.map (na P S):=fun l=>by
  rw[List.map_map];rfl
 have Z:((I.toList.map fun x=>(na P S x,x.val)).map (·.1)).Nodup:=by
  rw[V];have:=Maps.fit_apart K F1;rw[List.pairwise_map] at this;unfold List.Nodup;rw[List.pairwise_map];refine List.Pairwise.imp_of_mem (fun {x y} D hy av e=>?_) this;rw[J x D,J y hy] at av;exact av (by simp only;rw[e])
 have aA:∀ p,p∈(I.toList.map (WideElems.rg P S mX)).foldr DataW.insert []→∃ x∈I.toList,p=(.string (na P S x),.held x.val):=fun p N=>by
  obtain ⟨x,D,rfl⟩:=List.mem_map.1 (mem_sorted.1 N);exact ⟨x,D,J x D⟩
 have O:∀ x∈I.toList,(Lit.string (na P S x),(DataW.held x.val:DataW Value))∈(I.toList.map (WideElems.rg P S mX)).foldr DataW.insert []:=fun x D=>mem_sorted.2 (by
  rw[←J x D];exact List.mem_map.2 ⟨x,D,rfl⟩)
 refine ⟨I.toList.map fun x=>(na P S x,x.val),by simp,⟨_,?_,ad.tidy K,?_,fun k=>⟨?_,fun v hv z=>?_⟩⟩,Z,fun p N=>?_⟩
 ·rw[show (I.toList.map fun x=>(na P S x,x.val)).length=I.size by simp]
  exact ad
 ·rw[kh Z,List.length_map]
  rw[size_eq,length_read];simp
 ·rw[has_eq,Bool.eq_iff_iff,List.any_eq_true,eM]
  constructor
  ·rintro ⟨p,N,hk⟩
   obtain ⟨x,D,rfl⟩:=aA p N;have e:=WideAt.sameKey_eq hk;injection e with e;rw[V,←e];exact List.mem_map.2 ⟨x,D,rfl⟩
  intro h;rw[V] at h;obtain ⟨x,D,rfl⟩:=List.mem_map.1 h;exact ⟨_,O x D,WideAt.sameKey_self (by trivial)⟩
 ·have hm:=gp hv
  obtain ⟨x,D,he⟩:=List.mem_map.1 hm;injection he with a0 a1;have hs:(((I.toList.map (WideElems.rg P S mX)).foldr DataW.insert []).find? (fun p=>p.1.sameKey (.string k))).isSome=true:=List.find?_isSome.2 ⟨_,O x D,by rw[a0];exact WideAt.sameKey_self (by trivial)⟩;obtain ⟨p,N⟩:=Option.isSome_iff_exists.1 hs;obtain ⟨y,hy,rfl⟩:=aA p (List.mem_of_find?_eq_some N);have hk:=List.find?_some N;have e:=WideAt.sameKey_eq hk;injection e with e;have M:(I.toList.map fun x=>(na P S x,x.val)).lookup k=some y.val:=gI Z (by
   rw[←e];exact List.mem_map.2 ⟨y,hy,rfl⟩)
  rw[hv] at M;injection M with M;simp only[DataW.atKey,N];rw[M]
 obtain ⟨x,D,rfl⟩:=List.mem_map.1 N;exact ⟨x,D,rfl,(U x D).2⟩
end
section
section
variable {α:Type}
structure iY (le:α→α→Bool):Prop where
 total:∀ a b,le a b=true∨le b a=true
 trans:∀ a b c,le a b=true→le b c=true→le a c=true
variable {le:α→α→Bool}
theorem iY.flip (h:iY le) {a b:α} (H:le a b=false):le b a=true:=by
 rcases h.total a b with D|D
 ·rw[H] at D;cases D
 exact D
abbrev lJ (le:α→α→Bool) (l:List α):Prop:=l.Pairwise fun a b=>le a b=true
abbrev mg (le:α→α→Bool) (a b:List α):List α:=List.merge a b le
theorem fH (l:List α):mg le l []=l:=by simp[mg]
theorem fI (l:List α):mg le [] l=l:=by simp[mg]
theorem jF (a:α) (l:List α) (b:α) (r:List α):mg le (a::l) (b::r)=if le a b=true then a::mg le l (b::r) else b::mg le (a::l) r:=by
 simp only[mg];exact List.cons_merge_cons ..
theorem gt {a b:α} (h:le a b=true) (l r:List α):mg le (a::l) (b::r)=a::mg le l (b::r):=by rw[jF,if_pos h]
theorem kP {a b:α} (h:le a b=false) (l r:List α):mg le (a::l) (b::r)=b::mg le (a::l) r:=by rw[jF,if_neg (by rw[h];decide)]
theorem Dj (a b:List α):(mg le a b).length=a.length+b.length:=by simp[mg,List.length_merge]
theorem BS (a b:List α):(mg le a b).Perm (a++b):=List.merge_perm_append le
theorem eR:∀ (A1 h B1 D:List α),(∀ x∈A1,∀ y∈D,le x y=true)→(∀ x∈h,∀ y∈B1,le x y=false)→mg le (A1++h) (B1++D)=mg le A1 B1++mg le h D
 | [],h,[],D,_,_=>by simp[mg]
 | [],h,y::B1,D,J,I=>by
  have ih:=eR [] h B1 D J fun x O z H=>I x O z (List.mem_cons_of_mem _ H)
  cases h with
  | nil=>simp[mg]
  | cons x h =>
   rw[fI] at ih ⊢;rw[List.nil_append] at ih ⊢;rw[List.cons_append,kP (I x (List.mem_cons_self ..) y (List.mem_cons_self ..)),ih,List.cons_append]
 | x::A1,h,[],D,J,I=>by
  have ih:=eR A1 h [] D (fun z H=>J z (List.mem_cons_of_mem _ H)) I
  cases D with
  | nil=>simp[mg]
  | cons y D =>
   rw[fH] at ih ⊢;rw[List.nil_append] at ih ⊢;rw[List.cons_append,gt (J x (List.mem_cons_self ..) y (List.mem_cons_self ..)),ih,List.cons_append]
 | x::A1,h,y::B1,D,J,I=>by
  have M:=eR A1 h (y::B1) D (fun z H=>J z (List.mem_cons_of_mem _ H)) I;have N:=eR (x::A1) h B1 D J fun z H w U=>I z H w (List.mem_cons_of_mem _ U)
  rw[List.cons_append,List.cons_append,jF,jF];rw[List.cons_append] at M N;split
  ·rw[M,List.cons_append]
  rw[N,List.cons_append]
termination_by A1 _ B1 _=>A1.length+B1.length
theorem BT {A:List α} {y:α} {B:List α} (h:∀ x∈A,le x y=true):mg le A (y::B)=A++(y::B):=by
 induction A with
 | nil=>rw[fI];rfl
 | cons x A ih=>rw[gt (h x (List.mem_cons_self ..)),ih fun z D=>h z (List.mem_cons_of_mem _ D)];rfl
theorem xE {A B:List α} (h:∀ x∈A,∀ y∈B,le x y=true):mg le A B=A++B:=by
 have:=eR A [] [] B h fun x D=>by cases D
 rw[List.append_nil,List.nil_append,fH,fI] at this;exact this
theorem kQ (J:iY le):∀ (A B C:List α),mg le (mg le A B) C=mg le A (mg le B C)
 | [],B,C=>by rw[fI,fI]
 | a::A,[],C=>by rw[fH,fI]
 | a::A,b::B,[]=>by rw[fH,fH]
 | a::A,b::B,c::C=>by
  have i1:=kQ J A (b::B) (c::C);have i2:=kQ J (a::A) B (c::C);have M:=kQ J (a::A) (b::B) C
  cases H:le a b with
  | true =>
   rw[gt H] at M ⊢
   cases D:le b c with
   | true =>
    rw[gt D] at i1 ⊢;rw[gt (J.trans _ _ _ H D),gt H,i1]
   | false =>
    rw[kP D] at i1 ⊢
    cases I:le a c with
    | true=>rw[gt I,gt I,i1]
    | false=>rw[kP I,kP I,M]
  | false =>
   rw[kP H] at M ⊢
   cases D:le b c with
   | true =>
    rw[gt D,gt D,kP H,i2]
   | false =>
    have I:le a c=false:=by
     cases h:le a c with
     | false=>rfl
     | true=>rw[J.trans _ _ _ (J.flip H) h] at D;cases D
    rw[kP D,kP D,kP I,M]
termination_by A B C=>A.length+B.length+C.length
theorem Dk (D:iY le) {A B:List α} (I:lJ le A) (H:lJ le B):lJ le (mg le A B):=by
 refine List.pairwise_merge (le:=le) (fun a b c=>D.trans a b c) (fun a b=>by rcases D.total a b with h|h<;>simp[h]) A B I H
def ee (le:α→α→Bool) (l:List α):List α:=l.foldl (fun acc y=>mg le acc [y]) []
theorem gJ (l:List α) (y:α):ee le (l++[y])=mg le (ee le l) [y]:=by
 unfold ee;rw[List.foldl_append];rfl
theorem gK (l:List α):(ee le l).Perm l:=by
 have:∀ (l acc:List α),(l.foldl (fun acc y=>mg le acc [y]) acc).Perm (acc++l):=fun l=>by
  induction l with
  | nil=>intro acc;rw[List.append_nil];exact .refl _
  | cons y l ih =>
   intro acc;rw[List.foldl_cons];refine (ih _).trans ?_;have:=(BS (le:=le) acc [y]).append_right l;rwa [List.append_assoc] at this
 exact this l []
theorem bG (l:List α):(ee le l).length=l.length:=(gK l).length_eq
theorem fJ {p:List α→Prop} (h:p []) (D:∀ l y,p l→p (l++[y])) (l:List α):p l:=by
 rw[←List.reverse_reverse l]
 induction l.reverse with
 | nil=>exact h
 | cons y r ih=>rw[List.reverse_cons];exact D _ _ ih
theorem kR (h:iY le) (l:List α):lJ le (ee le l):=by
 refine fJ (p:=fun l=>lJ le (ee le l)) List.Pairwise.nil (fun l y ih=>?_) l;rw[gJ];exact Dk h ih (List.pairwise_singleton _ _)
theorem nI (h:iY le) (A B:List α):ee le (A++B)=mg le (ee le A) (ee le B):=by
 refine fJ (p:=fun B=>ee le (A++B)=mg le (ee le A) (ee le B)) ?_ (fun l y ih=>?_) B
 ·rw[List.append_nil]
  exact (fH _).symm
 rw[←List.append_assoc,gJ,gJ,ih,kQ h]
theorem zN {A1 h:List α} {y:α} (J:∀ x∈A1,le x y=true) (I:∀ x∈h,le x y=false):mg le (A1++h) [y]=A1++y::h:=by
 have e:=eR (le:=le) A1 h [y] [] (fun x _ z D=>by cases D) fun x H z D=>by rw[List.mem_singleton.1 D];exact I x H
 rw[List.append_nil,fH] at e;rw[e,BT J,List.append_assoc];rfl
theorem Dl {B1 D:List α} {x:α} (J:∀ y∈B1,le x y=false) (I:∀ y∈D,le x y=true):mg le [x] (B1++D)=B1++x::D:=by
 have e:=eR (le:=le) [] [x] B1 D (fun z h=>by cases h) fun z h y H=>by rw[List.mem_singleton.1 h];exact J y H
 rw[List.nil_append,fI] at e;rw[e,xE fun z h y H=>by rw[List.mem_singleton.1 h];exact I y H];rfl
theorem sB {A:List α} (h:lJ le A) {x:α} (M:x∈A) {n:Nat} (N:n+1=A.length) (I:iY le):le x (A[n]'(by omega))=true:=by
 obtain ⟨i,H,rfl⟩:=List.getElem_of_mem M;rcases Nat.lt_or_ge i n with D|J
 ·exact List.pairwise_iff_getElem.1 h i n H (by omega) D
 obtain rfl:i=n:=by omega
 rcases I.total A[i] A[i] with h|h<;>exact h
theorem sC {A:List α} (h:lJ le A) {x:α} (J:x∈A) (M:0<A.length) (I:iY le):le A[0] x=true:=by
 obtain ⟨i,H,rfl⟩:=List.getElem_of_mem J;rcases Nat.eq_zero_or_pos i with rfl|D
 ·rcases I.total A[0] A[0] with h|h<;>exact h
 exact List.pairwise_iff_getElem.1 h 0 i (by omega) H D
theorem BU (H:iY le) {A B:List α} (N:lJ le A) (M:lJ le B) (h:∀ n,n+1=A.length→∀ (V:n<A.length) (O:0<B.length),le A[n] B[0]=true):∀ x∈A,∀ y∈B,le x y=true:=by
 intro x J y I;have U:=List.length_pos_of_mem J;have D:=List.length_pos_of_mem I;exact H.trans _ _ _ (sB N J (n:=A.length-1) (by omega) H) (H.trans _ _ _ (h (A.length-1) (by omega) (by omega) D) (sC M I D H))
theorem BV (D:iY le) {A B:List α} (V:lJ le A) (O:lJ le B) (h:∀ n,n+1=B.length→∀ (Z:n<B.length) (h0:0<A.length),le A[0] B[n]=false):∀ x∈A,∀ y∈B,le x y=false:=by
 intro x M y J;have N:=List.length_pos_of_mem M;have U:=List.length_pos_of_mem J;have I:=h (B.length-1) (by omega) (by omega) N
 cases H:le x y with
 | false=>rfl
 | true =>
  rw[D.trans _ _ _ (sC V M N D) (D.trans _ _ _ H (sB O J (n:=B.length-1) (by omega) D))] at I;cases I
end
theorem Fe:∀ a b:Bs,Op.bytesLess a b=decide (a<b)
 | [],[]=>by simp[Op.bytesLess]
 | _::_,[]=>by simp[Op.bytesLess]
 | [],_::_=>by simp[Op.bytesLess]
 | x::a,y::b=>by
  have ih:=Fe a b;unfold Op.bytesLess;rw[ih,Bool.eq_iff_iff];simp[List.cons_lt_cons_iff]
def BJ (a b:Vl):Bool:=!cH b a
theorem kS (a b:Vl):BJ a b=true↔(a.kind<b.kind∨a.kind=b.kind∧((a.kind=1∧a.num≤b.num)∨(a.kind≠1∧a.word≤b.word))):=by
 unfold BJ cH;rw[Bool.not_eq_true'];by_cases D:b.kind=a.kind
 ·rw[if_pos D]
  by_cases H:b.kind=1
  ·rw[if_pos H,decide_eq_false_iff_not]
   constructor
   ·intro h;exact .inr ⟨D.symm,.inl ⟨by omega,by omega⟩⟩
   rintro (h|⟨_,⟨_,h⟩|⟨h,_⟩⟩)
   ·omega
   ·omega
   exact absurd (D ▸ H) h
  rw[if_neg H,Fe,decide_eq_false_iff_not,List.not_lt];constructor
  ·intro h;exact .inr ⟨D.symm,.inr ⟨by omega,h⟩⟩
  rintro (h|⟨_,⟨h,_⟩|⟨_,h⟩⟩)
  ·omega
  ·omega
  exact h
 rw[if_neg D,decide_eq_false_iff_not];constructor
 ·intro h;exact .inl (by omega)
 rintro (h|⟨h,_⟩)
 ·omega
 omega
theorem ww:iY BJ where
 total a b:=by
  rw[kS,kS];rcases Int.lt_trichotomy a.kind b.kind with h|h|h
  ·exact .inl (.inl h)
  ·by_cases H:a.kind=1
   ·rcases Int.le_total a.num b.num with D|D
    ·exact .inl (.inr ⟨h,.inl ⟨H,D⟩⟩)
    exact .inr (.inr ⟨h.symm,.inl ⟨by omega,D⟩⟩)
   rcases List.le_total a.word b.word with D|D
   ·exact .inl (.inr ⟨h,.inr ⟨H,D⟩⟩)
   exact .inr (.inr ⟨h.symm,.inr ⟨by omega,D⟩⟩)
  exact .inr (.inl h)
 trans a b c:=by
  rw[kS,kS,kS];rintro (H|⟨H,D⟩) (M|⟨M,N⟩)
  ·exact .inl (by omega)
  ·exact .inl (by omega)
  ·exact .inl (by omega)
  refine .inr ⟨by omega,?_⟩;rcases D with ⟨I,J⟩|⟨I,J⟩<;>rcases N with ⟨O,b2⟩|⟨O,b2⟩
  ·exact .inl ⟨I,by omega⟩
  ·omega
  ·omega
  exact .inr ⟨I,List.le_trans J b2⟩
def nf (h:List Nat) (x z:List Vl):Int:=match h with
 | []=>0
 | k::h=>if cH (x.getD k ⟨0,0,[]⟩) (z.getD k ⟨0,0,[]⟩)=true then -1 else if cH (z.getD k ⟨0,0,[]⟩) (x.getD k ⟨0,0,[]⟩)=true then 1 else nf h x z
def Dm (h:List Nat) (x z:List Vl):Bool:=!decide (nf h z x<0)
theorem nJ (k:Nat) (h:List Nat) (x z:List Vl):Dm (k::h) x z=(BJ (x.getD k ⟨0,0,[]⟩) (z.getD k ⟨0,0,[]⟩)&&(!BJ (z.getD k ⟨0,0,[]⟩) (x.getD k ⟨0,0,[]⟩)||Dm h x z)):=by
 have D:=ww.total (x.getD k ⟨0,0,[]⟩) (z.getD k ⟨0,0,[]⟩);unfold Dm;rw[nf];unfold BJ at D ⊢
 cases I:cH (z.getD k ⟨0,0,[]⟩) (x.getD k ⟨0,0,[]⟩) with
 | true=>simp
 | false =>
  cases H:cH (x.getD k ⟨0,0,[]⟩) (z.getD k ⟨0,0,[]⟩) with
  | true=>simp
  | false=>simp
theorem rf:∀ M:List Nat,iY (Dm M)
 | []=>⟨fun _ _=> .inl rfl,fun _ _ _ _ _=>rfl⟩
 | k::M=>by
  have ih:=rf M;have H:=ww;refine ⟨fun a b=>?_,fun a b c D h=>?_⟩
  ·rw[nJ,nJ]
   have O:=H.total (a.getD k ⟨0,0,[]⟩) (b.getD k ⟨0,0,[]⟩);have U:=ih.total a b;revert O
   cases BJ (a.getD k ⟨0,0,[]⟩) (b.getD k ⟨0,0,[]⟩)<;>cases BJ (b.getD k ⟨0,0,[]⟩) (a.getD k ⟨0,0,[]⟩)<;>simp_all
  rw[nJ,Bool.and_eq_true,Bool.or_eq_true,Bool.not_eq_true'] at D h ⊢;refine ⟨H.trans _ _ _ D.1 h.1,?_⟩;rcases D.2 with I|I
  ·left
   cases N:BJ (c.getD k ⟨0,0,[]⟩) (a.getD k ⟨0,0,[]⟩) with
   | false=>rfl
   | true=>rw[H.trans _ _ _ h.1 N] at I;cases I
  rcases h.2 with J|J
  ·left
   cases N:BJ (c.getD k ⟨0,0,[]⟩) (a.getD k ⟨0,0,[]⟩) with
   | false=>rfl
   | true=>rw[H.trans _ _ _ N D.1] at J;cases J
  exact .inr (ih.trans _ _ _ I J)
end
section
open Go.RowKit
theorem ao.new' (W:World) (k:Nat) (t:TypeId) (c:Array Value) (h:k=W.heap.size):ao (W.alloc (FG c t)) k t c:=h ▸ FA W t c
section
variable {P:Program} (w:World)
theorem cX (base:Nat) (t ty e:TypeId) (i:TypeInfo) (z:Value) (size D:Nat) (ht:P.underlying t=some (.slice e)) (Z:P.info? e=some i) (hz:i.zero=some z)
  (M:i.size=size) (av:i.bytes=D) (a0:z.cells.size=size) (aA:0<size)
  {v:Value} {n:Nat} {xs:List Value} (H:w.ownsRow base e size v n xs) {A:Option Addr} {m:Nat} {N:List Value} (O:Rd w [] size A m N) (c:Nat) (h1:∀ u∈N,u.oneCell'=true)
  (V:n+m≤maxLen) (I:(n+m)*D≤140737488355328) (J:base≤w.heap.size) :
  ∃ v' w',(Builtin.append_ #[t,t] ty #[v,FD A m c]).run P w= .ok v' w'∧w'.ownsRow base e size v' (n+m) (xs++N)∧w.grownBy w' v.ownBlock:=by
 cases A with
 | some ad =>
  have hc:∀ j u,N[j]? = some u→w.cell? (ad.add j)=some u:=fun j u hu=>by
   have hm:0<m:=by
    have:=(List.getElem?_eq_some_iff.1 hu).1;rw[O.1] at this;rcases Nat.eq_zero_or_pos m with h|h
    ·rw[h] at this;omega
    exact h
   obtain ⟨a2,e1,_,_,h⟩:=O.2 hm;injection e1 with e1;rw[e1];exact h j u hu
  obtain ⟨v',w',U,h2,h3,_⟩:=run_append_own_at (P:=P) w base t ty e i z size D ht Z hz M av a0 aA v n xs H ad m c N O.1 hc h1 V I J;exact ⟨v',w',U,h2,h3⟩
 | none =>
  have hm:m=0:=by
   rcases Nat.eq_zero_or_pos m with h|h
   ·exact h
   obtain ⟨_,h,_⟩:=O.2 h;cases h
  subst hm;have hy:N=[]:=List.eq_nil_of_length_eq_zero (by rw[O.1,Nat.zero_mul]);subst hy;refine ⟨v,w,?_,by simpa using H,World.grownBy.refl w _⟩;have hU:=run_underlying ht;rcases H.2 with ⟨rfl,rfl⟩|⟨g,cap,cur,rfl,_,_,a1,_⟩
  ·simp[Builtin.append_,hU,sizeOf,typeInfo,Z,Builtin.lenOf,Builtin.firstCells]
  simp[Builtin.append_,hU,sizeOf,typeInfo,Z,Builtin.lenOf,Builtin.firstCells,a1,storeCells]
theorem fD {w:World} {e:TypeId} {cur:Array Value} {size G:Nat} (D:cur.size=G*size) (h:G≤maxLen):(w.alloc (FG cur e)).ownsRow w.heap.size e size (FD (some ⟨w.heap.size,0,none⟩) 0 G) 0 [] :=
 ⟨by simp,.inr ⟨w.heap.size,G,cur,rfl,Fm _,heap_alloc_new _ _,Fu _,h,D,by simp⟩⟩
end
def du (h:List (Nat×List Value)) (m:Nat):Nat:=((h.take m).map (·.1)).sum
def iP (h:List (Nat×List Value)) (m:Nat):List Value:=(h.take m).flatMap (·.2)
def DI (w:World) (size:Nat) (u:Value) (p:Nat×List Value):Prop:=∃ A c,u=FD A p.1 c∧Rd w [] size A p.1 p.2
theorem dn (D:List (Nat×List Value)) (m:Nat) (h:m<D.length):du D (m+1)=du D m+D[m].1:=by
 unfold du;rw[List.take_succ_eq_append_getElem h,List.map_append,List.sum_append];simp
theorem lX (D:List (Nat×List Value)) (m:Nat) (h:m<D.length):iP D (m+1)=iP D m++D[m].2:=by
 unfold iP;rw[List.take_succ_eq_append_getElem h,List.flatMap_append];simp
theorem rJ (D:List (Nat×List Value)) {m:Nat} (h:m≤D.length):du D m≤du D D.length:=by
 have H:∀ d,m+d≤D.length→du D m≤du D (m+d):=fun d=>by
  induction d with
  | zero=>intro _;exact Fm _
  | succ d ih =>
   intro h;have:=ih (by omega);have I:=dn D (m+d) (by omega);rw[←Nat.add_assoc,I];omega
 have:=H (D.length-m) (by omega);rwa [show m+(D.length-m)=D.length by omega] at this
end
section
theorem World.heap_size_alloc' (w:World) (o:Obj):(w.alloc o).heap.size=w.heap.size+1:=Array.size_push _
open Go.RowKit Go.Extern.Stop Go.Stop Go.Extern
abbrev pK (t:Nat):Value:=FE (some ⟨13,t,none⟩)
theorem mJ (t:Addr) (w:World):(ReflectliteValue.unpack (.iface 135 (FE (some t)))).run Tryz.prog w
  = .ok (.agg #[FE (some ⟨13,135,none⟩),FE (some ⟨w.heap.size,0,none⟩),.int .u64 150]) (w.alloc (FG #[FE (some t)] 135)):=by kernel_rfl
theorem tg (a:Addr) (w:World):(ReflectliteValue.methodAny (ReflectliteValue.valueError "reflectlite.Value.Type" 0) (fun t _ _ _=>ReflectliteType.toType t) #[.agg #[FE (some ⟨13,135,none⟩),FE (some a),.int .u64 150]]).run Tryz.prog w
  = .ok (.iface 208 (.agg #[FE (some ⟨13,135,none⟩)])) w:=by kernel_rfl
theorem j8 (h:Value) (w:World):(Go.method 419 208 (.agg #[h]) "Kind").run Tryz.prog w= .ok (220,h) w:=by kernel_rfl
theorem th (w:World):((ReflectliteType.abiMethod fun t=>(fun a:Nat=>Value.int IntKind.u8 (a:Int)) <$> Rtype.kind t) #[FE (some ⟨13,135,none⟩)]).run Tryz.prog w= .ok (.int .u8 22) w:=by kernel_rfl
theorem ti (w:World):((ReflectliteType.abiMethod fun t=>(fun a:Nat=>Value.int IntKind.u8 (a:Int)) <$> Rtype.kind t) #[FE (some ⟨13,37,none⟩)]).run Tryz.prog w= .ok (.int .u8 2) w:=by kernel_rfl
theorem Ff (z:Sem Value) (f:TypeId→Addr→Nat→Nat→Sem Value) (v:Value) :
  ReflectliteValue.method z f #[v]=(do match ← ReflectliteValue.parts v with|none=>z|some (t,a,fl)=>f t a fl (fl % 32)):=rfl
theorem qD (a:Addr) (w:World):(ReflectliteValue.parts (.agg #[FE (some ⟨13,135,none⟩),FE (some a),.int .u64 150])).run Tryz.prog w= .ok (some (135,a,150)) w:=by kernel_rfl
theorem qE (a p:Addr) (W:World) (h:W.cell? a=some (FE (some p))) :
  (ReflectliteValue.method (ReflectliteValue.valueError "reflectlite.Value.IsNil" 0) ReflectliteValue.isNil #[.agg #[FE (some ⟨13,135,none⟩),FE (some a),.int .u64 150]]).run Tryz.prog W= .ok (.bool false) W:=by
 rw[Ff];simp only[Sem.run_bind,qD,Result.andThen];simp[ReflectliteValue.isNil,loadVar,isAgg,underlying,Tryz.underlying135,h,Result.andThen]
theorem j9 (h:Value) (w:World):(Go.method 419 208 (.agg #[h]) "Elem").run Tryz.prog w= .ok (232,.agg #[h]) w:=by kernel_rfl
theorem fq (h:Value) (w:World):(Go.method 419 208 (.agg #[h]) "Implements").run Tryz.prog w= .ok (233,.agg #[h]) w:=by kernel_rfl
theorem eq (h:Value) (w:World):(Go.method 419 208 (.agg #[h]) "AssignableTo").run Tryz.prog w= .ok (230,.agg #[h]) w:=by kernel_rfl
theorem tj (w:World):(ReflectliteType.method ReflectliteType.elem #[.agg #[FE (some ⟨13,135,none⟩)]]).run Tryz.prog w= .ok (.iface 208 (.agg #[FE (some ⟨13,37,none⟩)])) w:=by kernel_rfl
theorem jn (w:World):(ReflectliteType.relation "Implements" ReflectliteType.implements_ #[.agg #[FE (some ⟨13,37,none⟩)],.iface 208 (.agg #[FE (some ⟨13,34,none⟩)])]).run Tryz.prog w= .ok (.bool true) w:=by kernel_rfl
theorem ov (v:Value) (w:World):(ReflectliteType.typeOf #[.iface 37 v]).run Tryz.prog w= .ok (.iface 208 (.agg #[FE (some ⟨13,37,none⟩)])) w:=by kernel_rfl
theorem jo (w:World):(ReflectliteType.relation "AssignableTo" ReflectliteType.assignableTo #[.agg #[FE (some ⟨13,37,none⟩)],.iface 208 (.agg #[FE (some ⟨13,37,none⟩)])]).run Tryz.prog w= .ok (.bool true) w:=by kernel_rfl
theorem mL (e:Int) (w:World):(ReflectliteValue.unpack (.iface 37 (FH FI e))).run Tryz.prog w
  = .ok (.agg #[FE (some ⟨13,37,none⟩),FE (some ⟨w.heap.size,0,none⟩),.int .u64 130]) (w.alloc (FG #[FH FI e] 37)):=by kernel_rfl
theorem uZ (w:World):(Rtype.elem? 135).run Tryz.prog w= .ok (some 37) w:=by kernel_rfl
theorem DT (p:Addr) (w:World):(ReflectliteValue.mk 37 p ReflectliteValue.flagAddr).run Tryz.prog w= .ok (.agg #[FE (some ⟨13,37,none⟩),FE (some p),.int .u64 386]) w:=by kernel_rfl
theorem qF (a p:Addr) (W:World) (h:W.cell? a=some (FE (some p))) :
  (ReflectliteValue.method (ReflectliteValue.valueError "reflectlite.Value.Elem" 0) ReflectliteValue.elem #[.agg #[FE (some ⟨13,135,none⟩),FE (some a),.int .u64 150]]).run Tryz.prog W
   = .ok (.agg #[FE (some ⟨13,37,none⟩),FE (some p),.int .u64 386]) W:=by
 rw[Ff];simp only[Sem.run_bind,qD,Result.andThen];simp[ReflectliteValue.elem,loadVar,isAgg,underlying,Tryz.underlying135,h,Result.andThen,uZ,DT]
theorem Fj (v x:Value):ReflectliteValue.set #[v,x]=(do
  let (some (dst,a,fl),some (src,b,_)):=(← ReflectliteValue.parts v,←ReflectliteValue.parts x)
   | unsupported (.noEntry "extern/(internal/reflectlite.Value).Set.zeroValue")
  if fl / ReflectliteValue.flagAddr % 2==0 then unsupported (.noEntry "extern/(internal/reflectlite.Value).Set.unaddressable")
  let h ← loadVar src b
  if ← Rtype.directlyAssignable dst src then storeVar dst a h
  else if ← Rtype.implements dst src then
   if (← Rtype.kind src)==20 then
    match h with
    | .nilIface=>unsupported (.noEntry "extern/reflectlite: a nil value of one interface type handed on as a value of another")
    | _=>storeVar dst a h
   else storeVar dst a (.iface src h)
  else panicString ("reflectlite.Set: value of type " ++ (← Rtype.spelt src) ++ " is not assignable to type " ++ (← Rtype.spelt dst))
  pure (.tuple #[])):=rfl
theorem u5 (a:Addr) (w:World):(ReflectliteValue.parts (.agg #[FE (some ⟨13,37,none⟩),FE (some a),.int .u64 386])).run Tryz.prog w= .ok (some (37,a,386)) w:=by kernel_rfl
theorem yf (a:Addr) (w:World):(ReflectliteValue.parts (.agg #[FE (some ⟨13,37,none⟩),FE (some a),.int .u64 130])).run Tryz.prog w= .ok (some (37,a,130)) w:=by kernel_rfl
theorem u6 (w:World):(Rtype.directlyAssignable 37 37).run Tryz.prog w= .ok true w:=by kernel_rfl
theorem wG (h b:Addr) (e:Int) (D:Value) (W:World) (H:W.cell? b=some (FH FI e)) (J:W.cell? h=some D) (I:W.frozen? h=false) :
  (ReflectliteValue.set #[.agg #[FE (some ⟨13,37,none⟩),FE (some h),.int .u64 386],.agg #[FE (some ⟨13,37,none⟩),FE (some b),.int .u64 130]]).run Tryz.prog W
   = .ok (.tuple #[]) (W.setCell h (FH FI e)):=by
 rw[Fj];simp only[Sem.run_bind,u5,yf,Result.andThen];simp[ReflectliteValue.flagAddr,loadVar,isAgg,underlying,Tryz.underlying37,H,Result.andThen,u6,storeVar,Value.cells,storeCells,Addr.add];rw[run_store Tryz.prog W h _ _ (by rfl)];simp[J,I]
def iJ (w:World):Prop:=w.cell? ⟨2,0,none⟩=some (.iface 208 (.agg #[FE (some ⟨13,34,none⟩)]))
theorem iJ.keep {L:List Nat} {w w':World} (h:iJ w) (D:aa L w w') (H:2∉L):iJ w':=D.cell_of (p:=⟨2,0,none⟩) h H
theorem DU (e:Int) (t:Addr) (h:Value) (w:World) (M:w.cell? ⟨2,0,none⟩=some (.iface 208 (.agg #[FE (some ⟨13,34,none⟩)]))) (D:w.cell? t=some h) (J:w.frozen? t=false) :
  Calls Tryz.prog 63 #[.iface 37 (FH FI e),.iface 135 (FE (some t))] w fun ev w'=>ev=FF (.bool true)∧((((w.alloc (FG #[FE (some t)] 135)).alloc (FG #[pK 135,FE (some ⟨w.heap.size,0,none⟩),.int .u64 150] 169)).alloc (FG #[pK 135,FE (some ⟨w.heap.size,0,none⟩),.int .u64 150] 169)).alloc (FG #[FH FI e] 37)).setCell t (FH FI e)=w':=by
 have h6:= @run_callFunc_extern Tryz.prog 93 _ (fun args=>ReflectliteValue.unpack (args.getD 0 (.tuple #[]))) Tryz.func93 (by kernel_rfl) (by kernel_rfl) (by kernel_rfl) (by kernel_rfl);have h7:= @run_callFunc_extern Tryz.prog 94 _ (ReflectliteValue.methodAny (ReflectliteValue.valueError "reflectlite.Value.Type" 0) (fun t _ _ _=>ReflectliteType.toType t)) Tryz.func94 (by kernel_rfl) (by kernel_rfl) (by kernel_rfl) (by kernel_rfl);have h8:= @run_callFunc_extern Tryz.prog 95 _ (ReflectliteValue.method (ReflectliteValue.valueError "reflectlite.Value.IsNil" 0) ReflectliteValue.isNil) Tryz.func95 (by kernel_rfl) (by kernel_rfl) (by kernel_rfl) (by kernel_rfl);have Z:= @run_callFunc_extern Tryz.prog 220 _ (ReflectliteType.abiMethod fun t=>do pure (.int .u8 (← Rtype.kind t))) Tryz.func220 (by kernel_rfl) (by kernel_rfl) (by kernel_rfl) (by kernel_rfl);have V:= @run_callFunc_extern Tryz.prog 232 _ (ReflectliteType.method ReflectliteType.elem) Tryz.func232 (by kernel_rfl) (by kernel_rfl) (by kernel_rfl) (by kernel_rfl);have N:= @run_callFunc_extern Tryz.prog 233 _ (ReflectliteType.relation "Implements" ReflectliteType.implements_) Tryz.func233 (by kernel_rfl) (by kernel_rfl) (by kernel_rfl) (by kernel_rfl);have a1:= @run_callFunc_extern Tryz.prog 135 _ ReflectliteType.typeOf Tryz.func135 (by kernel_rfl) (by kernel_rfl) (by kernel_rfl) (by kernel_rfl);have a3:= @run_callFunc_extern Tryz.prog 230 _ (ReflectliteType.relation "AssignableTo" ReflectliteType.assignableTo) Tryz.func230 (by kernel_rfl) (by kernel_rfl) (by kernel_rfl) (by kernel_rfl);have av:= @run_callFunc_extern Tryz.prog 136 _ (ReflectliteValue.method (ReflectliteValue.valueError "reflectlite.Value.Elem" 0) ReflectliteValue.elem) Tryz.func136 (by kernel_rfl) (by kernel_rfl) (by kernel_rfl) (by kernel_rfl);have a0:= @run_callFunc_extern Tryz.prog 137 _ ReflectliteValue.set Tryz.func137 (by kernel_rfl) (by kernel_rfl) (by kernel_rfl) (by kernel_rfl);have tO:=ov;have mA:=eq;have a4:=jo;have O:=mL;have f6:=mJ;have f7:=tg
 have mK:=j8;have mE:=j9;have mI:=fq;have U:=th;have Fg:=ti;have ad:=tj;have a2:=jn;have n8:=qE ⟨w.heap.size,0,none⟩ t ((w.alloc (FG #[FE (some t)] 135)).alloc (FG #[pK 135,FE (some ⟨w.heap.size,0,none⟩),.int .u64 150] 169)) (by simp);have I:2<w.heap.size:=Fq w ⟨2,0,none⟩ M;have aA:((w.alloc (FG #[FE (some t)] 135)).alloc (FG #[pK 135,FE (some ⟨w.heap.size,0,none⟩),.int .u64 150] 169)).cell? ⟨2,0,none⟩=some (.iface 208 (.agg #[FE (some ⟨13,34,none⟩)])):=by
  rw[World.cell?_alloc_lt _ _ ⟨2,0,none⟩ (show 2<_ by rw[World.heap_size_alloc'];omega),World.cell?_alloc_lt _ _ ⟨2,0,none⟩ I];exact M
 have H:t.block<w.heap.size:=Fq w t D;have el:=qF ⟨w.heap.size,0,none⟩ t (((w.alloc (FG #[FE (some t)] 135)).alloc (FG #[pK 135,FE (some ⟨w.heap.size,0,none⟩),.int .u64 150] 169)).alloc (FG #[pK 135,FE (some ⟨w.heap.size,0,none⟩),.int .u64 150] 169)) (by rw[World.cell?_alloc_lt _ _ ⟨w.heap.size,0,none⟩ (by simp;omega)];simp);have st:=wG t ⟨w.heap.size+1+1+1,0,none⟩ e h ((((w.alloc (FG #[FE (some t)] 135)).alloc (FG #[pK 135,FE (some ⟨w.heap.size,0,none⟩),.int .u64 150] 169)).alloc (FG #[pK 135,FE (some ⟨w.heap.size,0,none⟩),.int .u64 150] 169)).alloc (FG #[FH FI e] 37))
  (by rw[World.cell?_alloc_at _ _ _ _ (by simp)];rfl)
  (by rw[World.cell?_alloc_lt _ _ t (by simp;omega),World.cell?_alloc_lt _ _ t (by simp;omega),World.cell?_alloc_lt _ _ t (by simp;omega),World.cell?_alloc_lt _ _ t H];exact D)
  (by rw[World.frozen?_alloc_old _ _ t (by simp;omega),World.frozen?_alloc_old _ _ t (by simp;omega),World.frozen?_alloc_old _ _ t (by simp;omega),World.frozen?_alloc_old _ _ t (Nat.ne_of_lt H)];exact J)
 go_enter Tryz.func63,Tryz.ntmps63
 go_wp2;refine wp_loop_rounds 1 ?_;rw[rounds_succ];go_wp2;go_ret;exact ⟨rfl,rfl⟩
end
section
open Go.RowKit Go.Extern.Stop Go.Stop Go.Extern
theorem u7 (v:Value) (w:World):(ReflectliteType.typeOf #[.iface 73 v]).run Tryz.prog w= .ok (.iface 208 (.agg #[FE (some ⟨13,73,none⟩)])) w:=by kernel_rfl
theorem ow (w:World):(ReflectliteType.relation "AssignableTo" ReflectliteType.assignableTo #[.agg #[FE (some ⟨13,73,none⟩)],.iface 208 (.agg #[FE (some ⟨13,37,none⟩)])]).run Tryz.prog w= .ok (.bool false) w:=by kernel_rfl
theorem DV (v:Value) (w:World):(Instr.typeAssert (.iface 73 v) 34 213 true).run Tryz.prog w= .ok (.tuple #[.nilIface,.bool false]) w:=run_typeAssert_lacksB Tryz.underlying213 (by kernel_rfl) (by kernel_rfl) v _ w
theorem DW (v:Value) (w:World):(Instr.typeAssert (.iface 73 v) 34 216 true).run Tryz.prog w= .ok (.tuple #[.iface 73 v,.bool true]) w:=run_typeAssert_hasB Tryz.underlying216 (by kernel_rfl) v _ w
theorem tn (a:Addr) (w:World):(Go.method 419 73 (FE (some a)) "Unwrap").run Tryz.prog w= .ok (225,FE (some a)) w:=by kernel_rfl
theorem yg (g:Nat) (e:Int) (w:World) (h:w.cell? ⟨g,0,none⟩=some (FH FI e)):Calls Tryz.prog 225 #[FE (some ⟨g,0,none⟩)] w fun D w'=>D=FF (.iface 37 (FH FI e))∧w=w':=by
 have H:=Fq _ _ h;go_enter Tryz.func225,Tryz.ntmps225
 go_wp2;go_ret;exact ⟨rfl,rfl⟩
theorem EC (g:Nat) (e:Int) (t:Addr) (h:Value) (w:World) (U:w.cell? ⟨2,0,none⟩=some (.iface 208 (.agg #[FE (some ⟨13,34,none⟩)]))) (J:w.cell? ⟨g,0,none⟩=some (FH FI e)) (D:w.cell? t=some h) (O:w.frozen? t=false) :
  Calls Tryz.prog 63 #[.iface 73 (FE (some ⟨g,0,none⟩)),.iface 135 (FE (some t))] w fun V w'=>V=FF (.bool true)∧((((w.alloc (FG #[FE (some t)] 135)).alloc (FG #[pK 135,FE (some ⟨w.heap.size,0,none⟩),.int .u64 150] 169)).alloc (FG #[pK 135,FE (some ⟨w.heap.size,0,none⟩),.int .u64 150] 169)).alloc (FG #[FH FI e] 37)).setCell t (FH FI e)=w':=by
 have h6:= @run_callFunc_extern Tryz.prog 93 _ (fun args=>ReflectliteValue.unpack (args.getD 0 (.tuple #[]))) Tryz.func93 (by kernel_rfl) (by kernel_rfl) (by kernel_rfl) (by kernel_rfl);have h7:= @run_callFunc_extern Tryz.prog 94 _ (ReflectliteValue.methodAny (ReflectliteValue.valueError "reflectlite.Value.Type" 0) (fun t _ _ _=>ReflectliteType.toType t)) Tryz.func94 (by kernel_rfl) (by kernel_rfl) (by kernel_rfl) (by kernel_rfl);have h8:= @run_callFunc_extern Tryz.prog 95 _ (ReflectliteValue.method (ReflectliteValue.valueError "reflectlite.Value.IsNil" 0) ReflectliteValue.isNil) Tryz.func95 (by kernel_rfl) (by kernel_rfl) (by kernel_rfl) (by kernel_rfl);have a1:= @run_callFunc_extern Tryz.prog 220 _ (ReflectliteType.abiMethod fun t=>do pure (.int .u8 (← Rtype.kind t))) Tryz.func220 (by kernel_rfl) (by kernel_rfl) (by kernel_rfl) (by kernel_rfl);have a0:= @run_callFunc_extern Tryz.prog 232 _ (ReflectliteType.method ReflectliteType.elem) Tryz.func232 (by kernel_rfl) (by kernel_rfl) (by kernel_rfl) (by kernel_rfl);have Z:= @run_callFunc_extern Tryz.prog 233 _ (ReflectliteType.relation "Implements" ReflectliteType.implements_) Tryz.func233 (by kernel_rfl) (by kernel_rfl) (by kernel_rfl) (by kernel_rfl);have a6:= @run_callFunc_extern Tryz.prog 135 _ ReflectliteType.typeOf Tryz.func135 (by kernel_rfl) (by kernel_rfl) (by kernel_rfl) (by kernel_rfl);have a8:= @run_callFunc_extern Tryz.prog 230 _ (ReflectliteType.relation "AssignableTo" ReflectliteType.assignableTo) Tryz.func230 (by kernel_rfl) (by kernel_rfl) (by kernel_rfl) (by kernel_rfl);have a3:= @run_callFunc_extern Tryz.prog 136 _ (ReflectliteValue.method (ReflectliteValue.valueError "reflectlite.Value.Elem" 0) ReflectliteValue.elem) Tryz.func136 (by kernel_rfl) (by kernel_rfl) (by kernel_rfl) (by kernel_rfl);have a5:= @run_callFunc_extern Tryz.prog 137 _ ReflectliteValue.set Tryz.func137 (by kernel_rfl) (by kernel_rfl) (by kernel_rfl) (by kernel_rfl);have tO:=ov;have mA:=eq;have a9:=jo;have ad:=mL;have f6:=mJ;have f7:=tg
 have mK:=j8;have mE:=j9;have mI:=fq;have av:=th;have Fg:=ti;have a2:=tj;have a7:=jn;have n8:=qE ⟨w.heap.size,0,none⟩ t ((w.alloc (FG #[FE (some t)] 135)).alloc (FG #[pK 135,FE (some ⟨w.heap.size,0,none⟩),.int .u64 150] 169)) (by simp);have M:2<w.heap.size:=Fq w ⟨2,0,none⟩ U;have a4:((w.alloc (FG #[FE (some t)] 135)).alloc (FG #[pK 135,FE (some ⟨w.heap.size,0,none⟩),.int .u64 150] 169)).cell? ⟨2,0,none⟩=some (.iface 208 (.agg #[FE (some ⟨13,34,none⟩)])):=by
  rw[World.cell?_alloc_lt _ _ ⟨2,0,none⟩ (show 2<_ by rw[World.heap_size_alloc'];omega),World.cell?_alloc_lt _ _ ⟨2,0,none⟩ M];exact U
 have I:t.block<w.heap.size:=Fq w t D;have el:=qF ⟨w.heap.size,0,none⟩ t (((w.alloc (FG #[FE (some t)] 135)).alloc (FG #[pK 135,FE (some ⟨w.heap.size,0,none⟩),.int .u64 150] 169)).alloc (FG #[pK 135,FE (some ⟨w.heap.size,0,none⟩),.int .u64 150] 169)) (by rw[World.cell?_alloc_lt _ _ ⟨w.heap.size,0,none⟩ (by simp;omega)];simp);have st:=wG t ⟨w.heap.size+1+1+1,0,none⟩ e h ((((w.alloc (FG #[FE (some t)] 135)).alloc (FG #[pK 135,FE (some ⟨w.heap.size,0,none⟩),.int .u64 150] 169)).alloc (FG #[pK 135,FE (some ⟨w.heap.size,0,none⟩),.int .u64 150] 169)).alloc (FG #[FH FI e] 37))
  (by rw[World.cell?_alloc_at _ _ _ _ (by simp)];rfl)
  (by rw[World.cell?_alloc_lt _ _ t (by simp;omega),World.cell?_alloc_lt _ _ t (by simp;omega),World.cell?_alloc_lt _ _ t (by simp;omega),World.cell?_alloc_lt _ _ t I];exact D)
  (by rw[World.frozen?_alloc_old _ _ t (by simp;omega),World.frozen?_alloc_old _ _ t (by simp;omega),World.frozen?_alloc_old _ _ t (by simp;omega),World.frozen?_alloc_old _ _ t (Nat.ne_of_lt I)];exact O)
 have tA:=u7;have aA:=ow;have sA:=DV;have uA:=DW;have mU:=tn ⟨g,0,none⟩;have N:g<w.heap.size:=Fq w ⟨g,0,none⟩ J;have H:(((w.alloc (FG #[FE (some t)] 135)).alloc (FG #[pK 135,FE (some ⟨w.heap.size,0,none⟩),.int .u64 150] 169)).alloc (FG #[pK 135,FE (some ⟨w.heap.size,0,none⟩),.int .u64 150] 169)).cell? ⟨g,0,none⟩=some (FH FI e):=by
  rw[World.cell?_alloc_lt _ _ ⟨g,0,none⟩ (show g<_ by rw[World.heap_size_alloc',World.heap_size_alloc'];omega),World.cell?_alloc_lt _ _ ⟨g,0,none⟩ (show g<_ by rw[World.heap_size_alloc'];omega),World.cell?_alloc_lt _ _ ⟨g,0,none⟩ N];exact J
 go_enter Tryz.func63,Tryz.ntmps63
 go_wp2;refine wp_loop_rounds 2 ?_;rw[rounds_succ];go_wp2_with fail
 refine (yg g e _ H).mono ?_;rintro V W2 ⟨rfl,rfl⟩;go_wp2;rw[rounds_succ];go_wp2;go_ret;exact ⟨rfl,rfl⟩
end
section
section
variable {α:Type} {le:α→α→Bool}
def Dd (le:α→α→Bool) (bs:Nat):Nat→List α→List α
 | 0,l=>ee le l
 | k+1,l=>if l.length≤bs then ee le l else ee le (l.take bs)++Dd le bs k (l.drop bs)
def nh (le:α→α→Bool) (bs:Nat) (l:List α):List α:=Dd le bs l.length l
theorem ig {bs k:Nat} {l:List α} (h:l.length≤bs):Dd le bs k l=ee le l:=by
 cases k with
 | zero=>rfl
 | succ k=>exact if_pos h
theorem tM {bs:Nat} (D:0<bs):∀ {k m:Nat} {l:List α},l.length≤k→l.length≤m→Dd le bs k l=Dd le bs m l
 | 0,m,l,h,_=>by rw[ig (l:=l) (by omega),ig (l:=l) (by omega)]
 | k+1,0,l,_,_=>by rw[ig (l:=l) (by omega),ig (l:=l) (by omega)]
 | k+1,m+1,l,J,I=>by
  unfold Dd;split
  ·rfl
  rename_i H;rw[tM D (k:=k) (m:=m) (by rw[List.length_drop];omega) (by rw[List.length_drop];omega)]
theorem eK {bs:Nat} {l:List α} (h:l.length≤bs):nh le bs l=ee le l:=ig h
theorem jy {bs:Nat} (H:0<bs) {l:List α} (h:bs≤l.length):nh le bs l=ee le (l.take bs)++nh le bs (l.drop bs):=by
 rcases Nat.lt_or_ge bs l.length with J|D
 ·unfold nh
  obtain ⟨k,I⟩:∃ k,l.length=k+1:=⟨l.length-1,by omega⟩
  rw[I];show (if l.length≤bs then _ else _)=_;rw[if_neg (by omega),tM H (k:=k) (m:=(l.drop bs).length) (by rw[List.length_drop];omega) (Fm _)]
 have e:l.drop bs=[]:=List.drop_eq_nil_of_le D;rw[eK D,e,List.take_of_length_le D,eK (Fu _)];simp[ee]
theorem wO {bs:Nat}:∀ (k:Nat) (l:List α),(Dd le bs k l).length=l.length
 | 0,l=>bG l
 | k+1,l=>by
  unfold Dd;split
  ·exact bG l
  rw[Fo,bG,wO k,Fw,List.length_drop];omega
theorem Co {bs:Nat} (l:List α):(nh le bs l).length=l.length:=wO _ l
theorem Cp (H:iY le) {bs:Nat} (D:0<bs) {l:List α} (h:2*bs≤l.length):nh le bs l=ee le (l.take bs)++(ee le ((l.drop bs).take bs)++nh le bs (l.drop (2*bs)))∧mg le (ee le (l.take bs)) (ee le ((l.drop bs).take bs))=ee le (l.take (2*bs)):=by
 refine ⟨?_,?_⟩
 ·rw[jy D (by omega),jy D (l:=l.drop bs) (by rw[List.length_drop];omega),List.drop_drop,show bs+bs=2*bs by omega]
 rw[←nI H];congr 1
 rw[show 2*bs=bs+bs by omega,List.take_add]
theorem AU (D:iY le) {bs:Nat} (h:0<bs) {l:List α} (H:bs≤l.length) (I:l.length≤2*bs):nh le bs l=ee le (l.take bs)++ee le (l.drop bs)∧mg le (ee le (l.take bs)) (ee le (l.drop bs))=ee le l:=by
 refine ⟨?_,?_⟩
 ·rw[jy h H,eK (l:=l.drop bs) (by rw[List.length_drop];omega)]
 rw[←nI D,List.take_append_drop]
end
end
section
open Go.RowKit
theorem Hd.et:Tryz.prog.globalNamed "errors.errorType" = some 2:=by kernel_rfl
theorem Hd.rt:(Tryz.prog.cutTypes.find? (·.1 == "internal/reflectlite.rtype")).map (·.2)=some 208:=by kernel_rfl
theorem Hd.oneRow:((List.range 319).filter fun t=>Tryz.prog.rowNamed t [101,114,114,111,114])=[34]:=by kernel_rfl
theorem Hd.size:Tryz.prog.types.size=319:=by kernel_rfl
theorem zx {D:List (String×DataW Unit)} (I:("errors.errorType",Rows.laid_errors_errorType)∈D) {W:World} (h:handlesMet Tryz.prog D W):iJ W:=by
 obtain ⟨H,u,O,M,V,e3,N,J⟩:=h _ I;have Z:H=[101,114,114,111,114]:=(Option.some.inj M).symm;subst Z;obtain rfl:=Option.some.inj (Hd.rt.symm.trans V);have I:O∈(List.range 319).filter fun t=>Tryz.prog.rowNamed t [101,114,114,111,114]:=List.mem_filter.2 ⟨List.mem_range.2 (by rw[←Hd.size];exact e3),N⟩
 rw[Hd.oneRow] at I;obtain rfl:=List.mem_singleton.1 I;have U:typeHandle Tryz.prog 34= .pointer (some ⟨13,34,none⟩):=by kernel_rfl
 rw[U] at J;show W.cell? _=_;simpa using World.var?_cell Hd.et J 0
def CV (w0:World):World :=
 { w0 with heap:=w0.heap.modify 2 fun
   | .cells _ t h=> .cells #[.iface 208 (.agg #[.pointer (some ⟨13,34,none⟩)])] t h
   | o=>o }
end
end Go.Proofs.YtecpeogejjibaaaGreatDoor
