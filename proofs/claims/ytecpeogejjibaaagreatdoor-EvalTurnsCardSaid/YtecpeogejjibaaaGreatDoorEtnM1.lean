/- Words for memory: what a call keeps of the world, slices that read as lists outside a footprint, blocks that are known whole, strings as lists of bytes. No program in sight. The frame of a law: arguments opened as lists, the handle of the type error. Tables as plain data: what may be, how it is written, how it is read. No program in sight. Tables as plain data, and what they are in memory. Arguments opened: values, columns, rows. Which is the first that something says of; plain. table.Name. table: RightValue, Less. table.RightCols; slices.IndexFunc, ContainsFunc at columns. -/
import Derived.WalkKit
import Derived.WalkLawsBesides
import Derived.BigQuiet
import Derived.Deep.QuietTactic
import Derived.Deep.RegionHeld3
import Derived.Deep.AppendLies
import Derived.Deep.DrawnRows
import Derived.Deep.LoopGhost
import Derived.Lib.Hide
import Derived.Deep.RegionLaw
import Derived.Deep.RegionWith
import Derived.StillTailTactics
import Derived.Laws.BytesString
import Derived.Test.YtecpeogejjibaaaGreatDoorRows
import Derived.ProofKit
import Derived.OpenShut
import Derived.ShutString
import Derived.ChangeOld
import Derived.ChangeSlices
import Derived.SliceStrings
import Derived.Deep.Slices
import Derived.Carry
import Derived.Handed
import Derived.LaidLaws
import Derived.LaidHandle
import Derived.JoinedOf
import Derived.Stop.Joined
import Derived.Lib.ItoaLen
import Derived.Lib.AtoiAll
import Derived.Test.YtecpeogejjibaaaGreatDoorProg
import Derived.Deep.Fields
import Derived.Lib.SmallJoins
import Derived.Test.YtecpeogejjibaaaGreatDoorShTab
import Derived.Shelf.Strings.SlTrimAscii
import Derived.Lib.OthersKept
import Derived.RowKit
set_option linter.unusedSimpArgs false
set_option linter.unusedVariables false
set_option maxRecDepth 100000
set_option maxHeartbeats 16000000
namespace Go.Proofs.YtecpeogejjibaaaGreatDoor
open Go.Lib renaming hid → Fk
open _root_.Nat renaming le_refl → Fm, le_trans → Ft, zero_le → Fu
open _root_.List renaming length_append → Fo, getElem?_eq_getElem → Fp, getElem_mem → Fs, length_cons → Fv, length_take → Fw
open Go.World renaming block_lt_of_cell? → Fq
open Go.Value renaming string → FC, slice → FD, pointer → FE, int → FH
open Go.Ending renaming returned → FF
open Go.Obj renaming cells → FG
open Go.IntKind renaming i64 → FI
section
open Go.RowKit
abbrev Bs:=List UInt8
def bs (l:Bs):ByteArray:=⟨l.toArray⟩
theorem wl (s:ByteArray):bs s.data.toList=s:=rfl
theorem ag (l:Bs):(bs l).size=l.length:=by simp[bs,ByteArray.size]
theorem zE {a b:Bs} (h:bs a=bs b):a=b:=by
 unfold bs at h;injection h with h;simpa using congrArg Array.toList h
theorem af (l:Bs):(bs l).toList=l:=by rw[ByteArray.toList_eq];simp[bs]
theorem ae (a b:Bs):bs a++bs b=bs (a++b):=by
 apply ByteArray.ext;rw[ByteArray.data_append];simp[bs]
theorem ab (l:Bs) (a b:Nat):(bs l).extract a b=bs ((l.take b).drop a):=by
 apply ByteArray.ext;rw[ByteArray.data_extract];simp[bs,List.drop_take]
theorem iR (l:Bs) (i:Nat) (h:i<(bs l).size):(bs l)[i]=l[i]'(by rw[ag] at h;exact h):=rfl
structure aa (L:List Nat) (w w':World):Prop where
 os:w'.os=w.os
 output:w'.output=w.output
 size:w.heap.size≤w'.heap.size
 block:∀ k,k<w.heap.size→k∉L→w'.heap[k]? = w.heap[k]?
section
variable {L L':List Nat} {a w w' w'':World}
theorem aa.refl (L:List Nat) (w:World):aa L w w:=⟨rfl,rfl,Fm _,fun _ _ _=>rfl⟩
theorem aa.trans' (h:aa L w w') (k:aa L' w' w'') (J:∀ x∈L',x<w.heap.size→x∈L):aa L w w'' :=
 ⟨k.os.trans h.os,k.output.trans h.output,Ft h.size k.size,fun i D H =>
  (k.block i (Nat.lt_of_lt_of_le D h.size) (fun I=>H (J i I D))).trans (h.block i D H)⟩
theorem aa.trans (h:aa L w w') (k:aa L w' w''):aa L w w'':=h.trans' k fun _ D _=>D
theorem aa.weaken (h:aa L w w') (J:∀ x∈L,x<w.heap.size→x∈L'):aa L' w w' :=
 ⟨h.os,h.output,h.size,fun k D I=>h.block k D fun H=>I (J k H D)⟩
theorem aa.of_nil (h:aa [] w w'):aa L w w':=h.weaken (by simp)
theorem aa.drew (h:aa L a w):aa L a w.drew:=⟨h.os,h.output,h.size,h.block⟩
theorem aa.drewN (h:aa L a w) (n:Nat):aa L a (w.drewN n):=⟨h.os,h.output,h.size,h.block⟩
theorem aa.alloc (h:aa L a w) (o:Obj):aa L a (w.alloc o) :=
 ⟨h.os,h.output,Ft h.size (by simp),fun k D H=>(Below.heap_alloc w o k (Nat.lt_of_lt_of_le D h.size)).trans (h.block k D H)⟩
theorem aa.setCell (h:aa L a w) {p:Addr} (D:p.block∈L∨a.heap.size≤p.block) (u:Value):aa L a (w.setCell p u) :=
 ⟨h.os,h.output,by simpa[World.setCell] using h.size,fun k I H=>(Below.heap_setCell w p u k (by
  rintro rfl;rcases D with D|D
  ·exact H D
  omega)).trans (h.block k I H)⟩
theorem aa.grown (h:aa L a w) {D:Option Nat} (H:w.grownBy w' D) (N:∀ g,D=some g→g∈L∨a.heap.size≤g):aa L a w' :=
 ⟨H.os.trans h.os,H.output.trans h.output,Ft h.size H.size,fun k I M =>
  (H.block k (Nat.lt_of_lt_of_le I h.size) (by
   intro O;rcases N k O.symm with J|J
   ·exact M J
   omega)).trans (h.block k I M)⟩
theorem aa.frame (h:aa [] w w') (D:MemPlace→Prop):w.keptBut w' D:=by
 refine ⟨h.os,h.output,fun i H=>?_⟩;rw[h.block i H (by simp)];split<;>simp_all
theorem aa.same (h:aa [] w w') {p:MemPlace} (D:p.block<w.heap.size):w.sameAt w' p:=by
 cases p with
 | cell b o=>exact World.cell?_of_block (w:=w) (h.block b D (by simp))
 | map b=>exact h.block b D (by simp)
theorem aa.of_below (h:Below w.heap.size w w'):aa L w w':=⟨h.os,h.output,h.size,fun k D _=>h.block k D⟩
theorem aa.cell (h:aa L w w') {p:Addr} (D:p.block<w.heap.size) (H:p.block∉L):w'.cell? p=w.cell? p :=
 World.cell?_of_block (h.block p.block D H)
theorem aa.frozen (h:aa L w w') {p:Addr} (D:p.block<w.heap.size) (H:p.block∉L):w'.frozen? p=w.frozen? p :=
 World.frozen?_of_block (h.block p.block D H)
theorem aa.cell_of (h:aa L w w') {p:Addr} {v:Value} (D:w.cell? p=some v) (H:p.block∉L):w'.cell? p=some v :=
 (h.cell (Fq w p D) H).trans D
end
def ao (w:World) (g:Nat) (t:TypeId) (cs:Array Value):Prop:=w.heap[g]? = some (FG cs t (0,0))
section
variable {w w':World} {g:Nat} {t:TypeId} {cs:Array Value}
theorem ao.lt (h:ao w g t cs):g<w.heap.size:=by
 rcases Nat.lt_or_ge g w.heap.size with H|D
 ·exact H
 unfold ao at h;rw[Array.getElem?_eq_none D] at h;cases h
theorem ao.cell (h:ao w g t cs) (i:Nat):w.cell? ⟨g,i,none⟩=cs[i]?:=cell_of_row w g i cs t (0,0) h
theorem ao.frozen (h:ao w g t cs) (i:Nat):w.frozen? ⟨g,i,none⟩=false:=by
 unfold ao at h;simp[World.frozen?,h]
theorem ao.new (w:World) (t:TypeId) (cs:Array Value):ao (w.alloc (FG cs t)) w.heap.size t cs:=heap_alloc_new w _
theorem ao.drew (h:ao w g t cs):ao w.drew g t cs:=h
theorem ao.drewN (h:ao w g t cs) (n:Nat):ao (w.drewN n) g t cs:=h
theorem ao.alloc (h:ao w g t cs) (o:Obj):ao (w.alloc o) g t cs:=(Below.heap_alloc w o g h.lt).trans h
theorem ao.set (h:ao w g t cs) (i:Nat) (u:Value):ao (w.setCell ⟨g,i,none⟩ u) g t (cs.setIfInBounds i u):=by
 unfold ao at h ⊢;simp[World.setCell,Array.getElem?_modify,h]
theorem ao.far (h:ao w g t cs) {p:Addr} (D:g≠p.block) (u:Value):ao (w.setCell p u) g t cs:=(Below.heap_setCell w p u g D).trans h
theorem ao.keep {L:List Nat} (h:ao w g t cs) (D:aa L w w') (H:g∉L):ao w' g t cs:=(D.block g h.lt H).trans h
theorem ao.ne {H:Nat} {t':TypeId} {cs':Array Value} (h:ao w g t cs) (h':ao w H t' cs') (D:t≠t'):g≠H:=by
 rintro rfl;unfold ao at h h';rw[h] at h';injection h' with h';injection h' with _ I;exact D I
theorem ao.congr {cs':Array Value} (h:ao w g t cs) (D:cs=cs'):ao w g t cs':=D ▸ h
end
theorem cY (a:Addr) (n:Nat):(a.add n).block=a.block:=by unfold Addr.add;split<;>rfl
theorem add_add (a:Addr) (i j:Nat):(a.add i).add j=a.add (i+j):=by
 unfold Addr.add;by_cases h:i=0<;>by_cases D:j=0<;>simp[h,D,Nat.add_assoc]
theorem cI (b o j:Nat):(⟨b,o,none⟩:Addr).add j=⟨b,o+j,none⟩:=by
 unfold Addr.add;split
 ·rename_i h;subst h;rfl
 rfl
def Rd (w:World) (L:List Nat) (size:Nat) (A:Option Addr) (n:Nat) (xs:List Value):Prop :=
 xs.length=n*size∧(0<n→∃ h,A=some h∧h.block∉L∧h.block<w.heap.size∧∀ j u,xs[j]? = some u→w.cell? (h.add j)=some u)
section
variable {w w':World} {L L':List Nat} {size n:Nat} {A:Option Addr} {xs:List Value}
theorem Rd.nil:Rd w L size A 0 []:=⟨by simp,fun h=>absurd h (by omega)⟩
theorem Rd.keep (h:Rd w L size A n xs) (H:aa L w w'):Rd w' L size A n xs :=
 ⟨h.1,fun O=>by
  obtain ⟨J,e,D,I,M⟩:=h.2 O;exact ⟨J,e,D,Nat.lt_of_lt_of_le I H.size,fun j u N=>(H.cell (by rw[cY];exact I) (by rw[cY];exact D)).trans (M j u N)⟩⟩
theorem Rd.move (h:Rd w L size A n xs) (O:∀ x∈L',x<w.heap.size→x∈L):Rd w L' size A n xs :=
 ⟨h.1,fun N=>by
  obtain ⟨I,e,H,D,M⟩:=h.2 N;exact ⟨I,e,fun J=>H (O _ J D),D,M⟩⟩
theorem Rd.apart (h:Rd w L size A n xs) (D:aa L w w') (V:∀ x∈L',w.heap.size≤x):Rd w' L' size A n xs :=
 ⟨h.1,fun U=>by
  obtain ⟨J,e,I,H,N⟩:=h.2 U;exact ⟨J,e,fun M=>by have:=V _ M;omega,Nat.lt_of_lt_of_le H D.size,fun j u O=>(D.cell (by rw[cY];exact H) (by rw[cY];exact I)).trans (N j u O)⟩⟩
theorem Rd.open' (h:Rd w L size A n xs) (I:0<n) (N:0<size):∃ b o,A=some ⟨b,o,none⟩∧b∉L∧b<w.heap.size∧∀ j u,xs[j]? = some u→w.cell? ⟨b,o+j,none⟩=some u:=by
 obtain ⟨⟨b,o,O⟩,e,M,V,H⟩:=h.2 I;have J:0<xs.length:=by rw[h.1];exact Nat.mul_pos I N
 have D:=World.cell?_spot (H 0 _ (Fp J));have hsp':O=none:=by simpa[Addr.add] using D
 subst hsp';refine ⟨b,o,e,M,V,fun j u U=>?_⟩;rw[←cI];exact H j u U
theorem Rd.of_own {base:Nat} {e:TypeId} {c:Nat} (h:w.ownsRow base e size (FD A n c) n xs) (M:∀ g,(Value.slice A n c).ownBlock=some g→g∉L):Rd w L size A n xs:=by
 refine ⟨h.1,fun J=>?_⟩;obtain ⟨g,cap,H,_,D⟩:=h.form J;have I:A=some ⟨g,0,none⟩:=by injection H
 subst I;exact ⟨_,rfl,M g rfl,D,h.cells (g:=g) rfl⟩
end
theorem aq {w:World} {base:Nat} {e:TypeId} {size n:Nat} {v:Value} {xs:List Value} (h:w.ownsRow base e size v n xs) :
  ∃ A c,v=FD A n c∧(0<n→∃ g,A=some ⟨g,0,none⟩∧g<w.heap.size∧∀ j u,xs[j]? = some u→w.cell? ⟨g,j,none⟩=some u):=by
 rcases h.2 with ⟨rfl,rfl⟩|⟨g,cap,cur,rfl,I,D,r⟩
 ·exact ⟨none,0,rfl,fun h=>absurd h (by omega)⟩
 refine ⟨_,cap,rfl,fun _=>⟨g,rfl,(Array.getElem?_eq_some_iff.1 D).1,fun j u H=>?_⟩⟩;have:=h.cells (g:=g) rfl j u H;rwa [cI,Nat.zero_add] at this
section
variable {w w':World} {p:Addr} {v:Value}
theorem aB (h:w.cell? p=some v∧w.frozen? p=false) (o:Obj):(w.alloc o).cell? p=some v∧(w.alloc o).frozen? p=false:=by
 have D:=Fq w p h.1;exact ⟨(World.cell?_alloc_lt w o p D).trans h.1,(World.frozen?_alloc_old w o p (Nat.ne_of_lt D)).trans h.2⟩
theorem aH {L:List Nat} (D:aa L w w') (h:w.cell? p=some v∧w.frozen? p=false) (H:p.block∉L):w'.cell? p=some v∧w'.frozen? p=false :=
 ⟨D.cell_of h.1 H,(D.frozen (Fq w p h.1) H).trans h.2⟩
theorem aC {D:Option Nat} (I:w.grownBy w' D) (h:w.cell? p=some v∧w.frozen? p=false) (H:D≠some p.block):w'.cell? p=some v∧w'.frozen? p=false :=
 ⟨(I.cell_far p (Fq w p h.1) (Ne.symm H)).trans h.1,(I.frozen_far p (Fq w p h.1) (Ne.symm H)).trans h.2⟩
end
theorem aE {w w':World} {L:List Nat} {base:Nat} {e:TypeId} {size:Nat} {v:Value} {n:Nat} {xs:List Value} (h:w.ownsRow base e size v n xs) (H:aa L w w') (M:∀ g,v.ownBlock=some g→g∉L):w'.ownsRow base e size v n xs:=by
 refine ⟨h.1,?_⟩;rcases h.2 with I|⟨g,cap,cur,rfl,J,D,r⟩
 ·exact .inl I
 exact .inr ⟨g,cap,cur,rfl,J,by rw[H.block g (Array.getElem?_eq_some_iff.1 D).1 (M g rfl)];exact D,r⟩
end
section
open Go.RowKit Go.ChangeShapes Go.WideShapes
theorem Fr.own:ownKnob Tryz.prog.godebug=none:=by kernel_rfl
theorem Fr.laidOut:laidOutB Tryz.prog=true:=by kernel_rfl
section
variable {P:Program} {H:Type} {enc:TypeId×Value→H} {W:World} {r:Reach} {base:Nat} {t e:TypeId} {v:Value} {d:DataW H} {p:List MemPlace}
theorem aa.trod {W':World} (O:laidOutB P=true) (N:P.readableRec t=true) (D:t<P.types.size)
  (h:DataW.Trod enc P W 0 (fun _=>true) true t v d p) (M:aa [] W W') (I:∀ x∈p,x.block<W.heap.size) :
  DataW.Trod enc P W' 0 (fun b=>decide (b<W.heap.size)) true t v d p :=
 WideElems.Trod_stays O N D h (fun x J=>M.same (I x J)) (fun x J=>by simpa using I x J)
end
end
section
structure Vl where
 kind:Int
 num:Int
 word:Bs
deriving DecidableEq
structure Cl where
 name:Bs
 kind:Int
deriving DecidableEq
structure Tb where
 cols:List Cl
 rows:List (List Vl)
deriving DecidableEq
def ik:Bs:=[97,98,99,100,101,102,103,104,105,106,107,108,109,110,111,112,113,114,115,116,117,118,119,120,121,122]
def dl:Bs:=ik++[48,49,50,51,52,53,54,55,56,57]
def fm (s:Bs):Bool:=!s.isEmpty&&decide (s.length≤10)&&ik.contains (s.getD 0 0)&&s.all (dl.contains ·)
def iN (b:UInt8):Bool:=decide (b.toNat<32)||decide (126<b.toNat)||decide (b.toNat=39)
def eO (v:Vl):Bool :=
 if v.kind=1 then (v.word==[])&&decide (-1000000000≤v.num)&&decide (v.num≤1000000000)
 else if v.kind=2 then decide (v.num=0)&&decide (v.word.length≤16) && !v.word.any iN
 else false
def cH (a b:Vl):Bool:=if a.kind=b.kind then (if a.kind=1 then decide (a.num<b.num) else Op.bytesLess a.word b.word) else decide (a.kind<b.kind)
def fY (l:List Cl) (i:Nat):Bool:=match l[i]? with
 | some c=>fm c.name&&(decide (c.kind=1)||decide (c.kind=2)) && !((l.take i).any fun d=>d.name==c.name)
 | none=>true
def bV (l:List Cl):Bool:=decide (1≤l.length)&&decide (l.length≤6)&&(List.range l.length).all (fY l)
def ke (cs:List Cl) (r:List Vl) (i:Nat):Bool:=match r[i]?,cs[i]? with
 | some v,some c=>decide (v.kind=c.kind)&&eO v
 | _,_=>true
def ft (cs:List Cl) (r:List Vl):Bool:=decide (r.length=cs.length)&&(List.range r.length).all (ke cs r)
def ak (t:Tb):Bool:=bV t.cols&&decide (t.rows.length≤60)&&t.rows.all (ft t.cols)
def eP (j:Nat):Bs:=match j with|1=>[105,110,116]|2=>[116,101,120,116]|_=>[]
def aZ (v:Vl):Bs:=if v.kind=1 then Lib.itoa v.num else [39]++v.word++[39]
def dX (n:Int):Prop:= -9223372036854775808≤n∧n≤9223372036854775807
def nu (l:List Cl):Nat→Bs
 | 0=>[]
 | k+1=>nu l k++(if k=0 then [] else [32])++(match l[k]? with|some c=>c.name++[58]++eP c.kind.toNat|none=>[])
def uv (r:List Vl):Nat→Bs
 | 0=>[]
 | k+1=>uv r k++(if k=0 then [] else [32])++(match r[k]? with|some v=>aZ v|none=>[])
def qc (h:List (List Vl)):Nat→Bs
 | 0=>[]
 | k+1=>qc h k++(match h[k]? with|some r=>uv r r.length++[10]|none=>[])
def il (t:Tb):Bs:=nu t.cols t.cols.length++[10]++qc t.rows t.rows.length
def EV (k:Bs):Nat:=if k=[105,110,116] then 1 else if k=[116,101,120,116] then 2 else 0
def ax (c:UInt8):Bs→List Bs
 | []=>[[]]
 | b::l=>if b=c then []::ax c l else match ax c l with
  | h::t=>(b::h)::t
  | []=>[[b]]
def fT (c:UInt8):Bs→Bs×Bs
 | []=>([],[])
 | b::l=>if b=c then ([],l) else (b::(fT c l).1,(fT c l).2)
def ef (s:Bs):Nat→List Bs×Nat×Bool
 | 0=>([],0,false)
 | k+1 =>
  let r:=ef s k
  if s.getD k 0=39 then (r.1,r.2.1,!r.2.2)
  else if s.getD k 0=32 && !r.2.2 then (r.1++[(s.take k).drop r.2.1],k+1,r.2.2)
  else r
def fU (s:Bs):List Bs:=(ef s s.length).1++[s.drop (ef s s.length).2.1]
def ew (s:Bs):Bool:=decide (2≤s.length)&&decide (s.getD 0 0=39)&&decide (s.getD (s.length-1) 0=39)
def Es (s:Bs):Option Vl :=
 if ew s then some ⟨2,0,(s.take (s.length-1)).drop 1⟩
 else match Lib.atoiAll s with
  | .ok n=>if Lib.itoa n=s then some ⟨1,n,[]⟩ else none
  | _=>none
def pM (s:Bs):Option Vl:=match Es s with
 | some v=>if eO v then some v else none
 | none=>none
inductive PR
 | ok (t:Tb)
 | bad (e:Int) (at_:Nat)
def zF (u:Bs):Cl:=⟨(fT 58 u).1,EV (fT 58 u).2⟩
def kK:List Bs→List Vl→Option (List Vl)
 | [],a=>some a
 | p::ps,a=>match pM p with
  | none=>none
  | some v=>kK ps (a++[v])
def mV (cols:List Cl) (r:List Vl):Bool:=decide (r.length=cols.length)&&(r.zip cols).all fun p=>p.1.kind==p.2.kind
def mw (cols:List Cl) (l:Bs):Option (List Vl):=match kK (fU l) [] with
 | none=>none
 | some r=>if mV cols r then some r else none
def fd (cols:List Cl):List Bs→Nat→List (List Vl)→PR
 | [],i,_=> .bad 3 i
 | l::rest,i,acc=>if rest=[]∧l=[] then .ok ⟨cols,acc⟩ else match mw cols l with
  | none=> .bad 3 (i+1)
  | some r=>if acc.length=60 then .bad 4 (i+1) else fd cols rest (i+1) (acc++[r])
def bE (l:Bs):List Cl:=(ax 32 l).map zF
def dy (s:Bs):PR:=if bV (bE ((ax 10 s).headD [])) then fd (bE ((ax 10 s).headD [])) (ax 10 s).tail 0 [] else .bad 3 0
end
section
open Go.RowKit
def eC (v:Vl):List Value:=[FH FI v.kind,FH FI v.num,FC (bs v.word)]
def fe (c:Cl):List Value:=[FC (bs c.name),FH FI c.kind]
def fV (v:Vl):Value:= .agg #[FH FI v.kind,FH FI v.num,FC (bs v.word)]
def BM (c:Cl):Value:= .agg #[FC (bs c.name),FH FI c.kind]
def al (l:List Vl):List Value:=l.flatMap eC
def ai (l:List Cl):List Value:=l.flatMap fe
theorem fF (l:List Vl):(al l).length=l.length*3:=by
 induction l with
 | nil=>rfl
 | cons p l ih=>simp[al,eC] at ih ⊢;omega
theorem nv (l:List Cl):(ai l).length=l.length*2:=by
 induction l with
 | nil=>rfl
 | cons p l ih=>simp[ai,fe] at ih ⊢;omega
theorem iS (l m:List Vl):al (l++m)=al l++al m:=by simp[al]
theorem iT (l m:List Cl):ai (l++m)=ai l++ai m:=by simp[ai]
theorem ay (l:List Vl) (k:Nat) (h:k<l.length):(al l)[k*3]? = some (FH FI l[k].kind)∧(al l)[k*3+1]? = some (FH FI l[k].num)∧(al l)[k*3+2]? = some (FC (bs l[k].word)):=by
 induction l generalizing k with
 | nil=>simp at h
 | cons p l ih =>
  rcases k with _|k
  ·simp[al,eC]
  have:=ih k (by simpa using h);simpa[al,eC,Nat.succ_mul] using this
theorem aN (l:List Cl) (k:Nat) (h:k<l.length):(ai l)[k*2]? = some (FC (bs l[k].name))∧(ai l)[k*2+1]? = some (FH FI l[k].kind):=by
 induction l generalizing k with
 | nil=>simp at h
 | cons p l ih =>
  rcases k with _|k
  ·simp[ai,fe]
  have:=ih k (by simpa using h);simpa[ai,fe,Nat.succ_mul] using this
def fG (w:World) (L:List Nat) (u:Value) (r:List Vl):Prop:=∃ A c,u=FD A r.length c∧r.length≤c∧Rd w L 3 A r.length (al r)
def cJ (w:World) (L:List Nat) (A:Option Addr) (rs:List (List Vl)):Prop :=
 ∃ us:List Value,us.length=rs.length∧Rd w L 1 A rs.length us∧∀ i (h:i<us.length) (h':i<rs.length),fG w L us[i] rs[i]
section
variable {w w':World} {L L':List Nat} {A:Option Addr} {rs:List (List Vl)} {u:Value} {r:List Vl}
theorem fG.keep (h:fG w L u r) (D:aa L w w'):fG w' L u r:=by
 obtain ⟨A,c,e,H,h⟩:=h;exact ⟨A,c,e,H,h.keep D⟩
theorem cJ.keep (h:cJ w L A rs) (D:aa L w w'):cJ w' L A rs:=by
 obtain ⟨us,J,I,H⟩:=h;exact ⟨us,J,I.keep D,fun i a b=>(H i a b).keep D⟩
end
end
section
open Go.RowKit Go.ChangeShapes Go.WideShapes Go.Joins
open Go.Deep (oneCellFields hone_of)
theorem wW {n:Int} (h:(Lit.int .i64 n).wf=true):dX n:=by
 have D:IntKind.i64.min= -9223372036854775808:=by decide
 have I:IntKind.i64.max=9223372036854775807:=by decide
 have h':(decide (IntKind.i64.min≤n)&&decide (n≤IntKind.i64.max))=true:=h;rw[D,I,Bool.and_eq_true,decide_eq_true_eq,decide_eq_true_eq] at h';exact h'
theorem sf {W:World} {α:Type} {size:Nat} (cells:α→List Value) (D:∀ x,(cells x).length=size):∀ (l:List α) (a:Addr),(∀ i (J:i<l.length) (r:Nat) (u:Value),(cells l[i])[r]? = some u→W.cell? (a.add (i*size+r))=some u)→∀ j u,(l.flatMap cells)[j]? = some u→W.cell? (a.add j)=some u
 | [],_,_,j,u,I=>by simp at I
 | x::l,a,h,j,u,I=>by
  rw[List.flatMap_cons] at I;by_cases N:j<size
  ·rw[List.getElem?_append_left (by rw[D];exact N)] at I
   have:=h 0 (by simp) j u I;rwa [Nat.zero_mul,Nat.zero_add] at this
  rw[List.getElem?_append_right (by rw[D];omega),D] at I;have:=sf cells D l (a.add size) (fun i J r u M=>by
   have:=h (i+1) (by simpa using J) r u M;rw[add_add,show size+(i*size+r)=(i+1)*size+r by rw[Nat.succ_mul];omega];exact this) _ u I
  rw[add_add,show size+(j-size)=j by omega] at this;exact this
theorem wn {W:World} {α:Type} {size:Nat} (M:0<size) (cells:α→List Value) (D:∀ x,(cells x).length=size) (l:List α) (a:Addr) (h:∀ i (N:i<l.length) (r:Nat) (u:Value),(cells l[i])[r]? = some u→W.cell? (a.add (i*size+r))=some u):Rd W [] size (some a) l.length (l.flatMap cells):=by
 refine ⟨?_,fun I=>⟨a,rfl,by simp,?_,sf cells D l a h⟩⟩
 ·clear h
  induction l with
  | nil=>simp
  | cons x l ih=>rw[List.flatMap_cons,Fo,D,ih,Fv,Nat.succ_mul];omega
 have J:0<(cells l[0]).length:=by rw[D];exact M
 have:=Fq _ _ (h 0 I 0 _ (Fp J));rwa [cY] at this
section
variable {H:Type} {enc:TypeId×Value→H} {P:Program} {w:World} {base:Nat} {spare:Nat→Bool} {held:Bool}
theorem mx {t e:TypeId} {M:Array Field} {fuel:Nat} {cs:List Value} {x:DataW H×List MemPlace} (ht:P.underlying t=some (.slice e)) (he:P.underlying e=some (.struct M))
  (N:oneCellFields P M=true) (hC:P.cellsOf e=M.size) (h:DataW.trod enc P w base spare held fuel t cs=some x) :
  cs=[.slice none 0 0] ∨
  ∃ (a:Addr) (I cap:Nat),cs=[.slice (some a) I cap]∧I≤cap∧cap≤maxLen ∧
   ∀ i,i<I→∃ (n:Nat),∀ (j:Nat) (f:Field),M[j]? = some f→∃ (v:Value) (y:DataW H×List MemPlace),w.cell? (a.add (i*M.size+j))=some v∧DataW.trod enc P w base spare held n f.type [v]=some y:=by
 rcases Go.Deep.open_slice ht h with ⟨h0,_⟩|⟨a,I,cap,m,n,D,Pl,ad,hb,hl,hm,U,hx,hi⟩
 ·exact .inl h0
 refine .inr ⟨a,I,cap,ad,hl,hm,fun i a1=>?_⟩;obtain ⟨cs',hc,V⟩:=hi i (by rw[U];split<;>omega);rw[hC] at hc;obtain ⟨ys,n',a3,hy,aA,a0,hf⟩:=DataW.trod_struct he V;obtain ⟨_,a2,av⟩:=World.cells?_some hc;refine ⟨n',fun j f hj=>?_⟩;obtain ⟨ho,hk⟩:=hone_of N j f hj;have Z:j<M.size:=(Array.getElem?_eq_some_iff.1 hj).1;have J:=av j Z;have hv:cs'[j]? = some (cs'[j]'(by omega)):=Fp (by omega);have h1:=hf j f hj;rw[ho,hk,List.drop_eq_getElem_cons (by omega)] at h1;have O:ys[j]? = some (ys[j]'(by omega)):=Fp (by omega);refine ⟨cs'[j]'(by omega),ys[j]'(by omega),?_,h1.trans O⟩;rw[←Go.Deep.add_add,J,hv]
end
instance:Inhabited Cl:=⟨⟨[],0⟩⟩
instance:Inhabited Vl:=⟨⟨0,0,[]⟩⟩
section
variable {H:Type} {enc:TypeId×Value→H} {w:World} {base:Nat} {spare:Nat→Bool} {held:Bool} {fuel:Nat} {cs:List Value} {x:DataW H×List MemPlace}
theorem wX (h:DataW.trod enc Tryz.prog w base spare held fuel 51 cs=some x) :
  ∃ (A:Option Addr) (c:Nat) (l:List Cl),cs=[.slice A l.length c]∧l.length≤c∧c≤maxLen∧Rd w [] 2 A l.length (ai l)∧∀ c∈l,c.name.length≤maxLen:=by
 rcases mx Tryz.underlying51 Tryz.underlying64 (by kernel_rfl) (by kernel_rfl) h with rfl|⟨a,D,cap,rfl,hl,hm,N⟩
 ·exact ⟨none,0,[],rfl,Fm _,Fu _,Rd.nil,by simp⟩
 have hx:∀ i,i<D→∃ c:Cl,w.cell? (a.add (i*2))=some (.string (bs c.name))∧w.cell? (a.add (i*2+1))=some (.int .i64 c.kind)∧c.name.length≤maxLen:=fun i M=>by
  obtain ⟨n,O⟩:=N i M;obtain ⟨v0,y0,av,ad⟩:=O 0 _ rfl;obtain ⟨v1,y1,V,Z⟩:=O 1 _ rfl;obtain ⟨s,U,_,hs⟩:=DataW.trod_string Tryz.underlying9 ad;obtain ⟨k,e1,_,_⟩:=DataW.trod_int Tryz.underlying3 Z;injection U with U;injection e1 with e1;subst U e1;exact ⟨⟨s.data.toList,k⟩,av,V,hs⟩
 obtain ⟨f,O⟩:=Go.Deep.choose_lt hx;have J:((List.range D).map f).length=D:=by simp
 refine ⟨some a,cap,(List.range D).map f,by rw[J],by rw[J];exact hl,hm,wn (by decide) fe (fun _=>rfl) _ a (fun i N r u I=>?_),fun c hc=>?_⟩
 ·have M:i<D:=by rw[J] at N;exact N
  rw[List.getElem_map,List.getElem_range] at I;obtain ⟨h1,h2,_⟩:=O i M;rcases r with _|_|r
  ·injection I with I;rw[←I];exact h1
  ·injection I with I;rw[←I];exact h2
  simp[fe] at I
 obtain ⟨i,N,rfl⟩:=List.mem_map.1 hc;exact (O i (List.mem_range.1 N)).2.2
theorem wY (h:DataW.trod enc Tryz.prog w base spare held fuel 89 cs=some x) :
  ∃ (A:Option Addr) (c:Nat) (l:List Vl),cs=[.slice A l.length c]∧l.length≤c∧c≤maxLen∧Rd w [] 3 A l.length (al l)∧∀ v∈l,v.word.length≤maxLen∧dX v.num:=by
 rcases mx Tryz.underlying89 Tryz.underlying46 (by kernel_rfl) (by kernel_rfl) h with rfl|⟨a,D,cap,rfl,hl,Z,N⟩
 ·exact ⟨none,0,[],rfl,Fm _,Fu _,Rd.nil,by simp⟩
 have hx:∀ i,i<D→∃ c:Vl,w.cell? (a.add (i*3))=some (.int .i64 c.kind)∧w.cell? (a.add (i*3+1))=some (.int .i64 c.num)∧w.cell? (a.add (i*3+2))=some (.string (bs c.word))∧c.word.length≤maxLen∧dX c.num:=fun i M=>by
  obtain ⟨n,O⟩:=N i M;obtain ⟨v0,y0,a1,aA⟩:=O 0 _ rfl;obtain ⟨v1,y1,ad,av⟩:=O 1 _ rfl;obtain ⟨v2,y2,V,a0⟩:=O 2 _ rfl;obtain ⟨k,U,_,_⟩:=DataW.trod_int Tryz.underlying3 aA;obtain ⟨m,e1,_,Z⟩:=DataW.trod_int Tryz.underlying3 av;obtain ⟨s,e2,_,hs⟩:=DataW.trod_string Tryz.underlying9 a0;injection U with U;injection e1 with e1;injection e2 with e2;subst U e1 e2;exact ⟨⟨k,m,s.data.toList⟩,a1,ad,V,hs,wW Z⟩
 obtain ⟨f,O⟩:=Go.Deep.choose_lt hx;have J:((List.range D).map f).length=D:=by simp
 refine ⟨some a,cap,(List.range D).map f,by rw[J],by rw[J];exact hl,Z,wn (by decide) eC (fun _=>rfl) _ a (fun i N r u I=>?_),fun c hc=>?_⟩
 ·have M:i<D:=by rw[J] at N;exact N
  rw[List.getElem_map,List.getElem_range] at I;obtain ⟨h1,h2,h3,_⟩:=O i M;rcases r with _|_|_|r
  ·injection I with I;rw[←I];exact h1
  ·injection I with I;rw[←I];exact h2
  ·injection I with I;rw[←I];exact h3
  simp[eC] at I
 obtain ⟨i,N,rfl⟩:=List.mem_map.1 hc;exact (O i (List.mem_range.1 N)).2.2.2
theorem wZ (h:DataW.trod enc Tryz.prog w base spare held fuel 52 cs=some x) :
  ∃ (A:Option Addr) (c:Nat) (l:List (List Vl)),cs=[.slice A l.length c]∧l.length≤c∧c≤maxLen∧cJ w [] A l∧∀ r∈l,r.length≤maxLen∧∀ v∈r,v.word.length≤maxLen∧dX v.num:=by
 rcases Go.Deep.open_slice1 Tryz.underlying52 (by kernel_rfl) h with ⟨rfl,_⟩|⟨a,J,cap,m,n,V,D,Pl,rfl,_,hl,U,M,_,I⟩
 ·exact ⟨none,0,[],rfl,Fm _,Fu _,⟨[],rfl,Rd.nil,fun i h=>absurd h (by simp)⟩,by simp⟩
 have hx:∀ i,i<J→∃ r:List Vl,fG w [] (V i) r∧r.length≤maxLen∧∀ v∈r,v.word.length≤maxLen∧dX v.num:=fun i O=>by
  obtain ⟨A,c,l,e,h1,h2,h3,h4⟩:=wY (I i (by rw[M];split<;>omega)).2;injection e with e;exact ⟨l,⟨A,c,e,h1,h3⟩,by omega,h4⟩
 obtain ⟨f,Z⟩:=Go.Deep.choose_lt hx;have N:((List.range J).map f).length=J:=by simp
 refine ⟨some a,cap,(List.range J).map f,by rw[N],by rw[N];exact hl,U,⟨(List.range J).map V,by simp,?_,fun i h h'=>?_⟩,fun r hr=>?_⟩
 ·rw[N]
  refine ⟨by simp,fun h0=>⟨a,rfl,by simp,?_,fun j u hu=>?_⟩⟩
  ·have:=Fq _ _ (I 0 (by rw[M];split<;>omega)).1
   rwa [cY] at this
  rw[List.getElem?_map,Option.map_eq_some_iff] at hu;obtain ⟨i,O,rfl⟩:=hu;have hj:j<J:=by
   have:=(List.getElem?_eq_some_iff.1 O).1;simpa using this
  rw[List.getElem?_range hj] at O;obtain rfl:=Option.some.inj O;exact (I j (by rw[M];split<;>omega)).1
 ·rw[List.getElem_map,List.getElem_map,List.getElem_range]
  exact (Z i (by simpa using h)).1
 obtain ⟨i,O,rfl⟩:=List.mem_map.1 hr;exact (Z i (List.mem_range.1 O)).2
end
section
variable {H:Type} {enc:TypeId×Value→H} {w:World} {base b0:Nat} {spare:Nat→Bool} {held:Bool} {v:Value} {d:DataW H} {p:List MemPlace} {r:Reach}
end
end
section
def bh {α:Type} (p:α→Bool) (l:List α):Int:=match l.findIdx? p with|some i=>(i:Int)|none=> -1
theorem dV {α:Type} {p:α→Bool} {l:List α} {k:Nat} (h:k<l.length) (I:∀ j (D:j<k),p (l[j]'(by omega))=false) (H:p l[k]=true):bh p l=(k:Int):=by
 unfold bh;have:l.findIdx? p=some k:=by
  rw[List.findIdx?_eq_some_iff_getElem];exact ⟨h,H,fun j D=>by simpa using I j D⟩
 rw[this]
theorem dA {α:Type} {p:α→Bool} {l:List α} (H:∀ j (h:j<l.length),p l[j]=false):bh p l= -1:=by
 unfold bh;have:l.findIdx? p=none:=by
  rw[List.findIdx?_eq_none_iff];intro x D;obtain ⟨j,h,rfl⟩:=List.getElem_of_mem D;exact H j h
 rw[this]
theorem eD {α:Type} (p:α→Bool) (l:List α):decide (0≤bh p l)=l.any p:=by
 unfold bh
 cases h:l.findIdx? p with
 | none =>
  rw[List.findIdx?_eq_none_iff] at h;simp;intro x I;simpa using h x I
 | some i =>
  rw[List.findIdx?_eq_some_iff_getElem] at h;obtain ⟨D,H,_⟩:=h;simp;exact ⟨_,Fs D,H⟩
end
section
open Go.RowKit
attribute [local go_sem] ag ab ae af
theorem ws (k:Bs):(bs k).data.toList=k:=rfl
theorem pN (l:Bs) (c:UInt8):decide (0≤Lib.indexByte l c)=l.contains c:=by
 induction l with
 | nil=>rfl
 | cons b l ih =>
  have H:=Lib.indexByte_ge l c;unfold Lib.indexByte;rw[List.contains_cons];by_cases h:b=c
  ·subst h;simp
  have J:(b==c)=false:=beq_eq_false_iff_ne.2 h;have I:(c==b)=false:=beq_eq_false_iff_ne.2 (Ne.symm h);rw[J,I,Bool.false_or,←ih];simp only[Bool.false_eq_true,if_false];by_cases D:Lib.indexByte l c= -1
  ·rw[D];rfl
  have:(Lib.indexByte l c== -1)=false:=beq_eq_false_iff_ne.2 D;rw[this,decide_eq_decide];simp only[Bool.false_eq_true,if_false];omega
theorem pO {p:UInt8→Bool} (l:Bs):(l.dropWhile p)=[]↔∀ x∈l,p x=true:=by
 induction l with
 | nil=>simp
 | cons a l ih =>
  rw[List.dropWhile_cons];by_cases h:p a=true
  ·rw[if_pos h,ih];simp[h]
  rw[if_neg h];simp[h]
theorem pP {p:UInt8→Bool} (l:Bs) (x:UInt8) (D:x∈l) (H:p x=false):x∈l.dropWhile p:=by
 induction l with
 | nil=>cases D
 | cons a l ih =>
  rw[List.dropWhile_cons];by_cases h:p a=true
  ·rw[if_pos h]
   rcases List.mem_cons.1 D with rfl|D
   ·rw[H] at h;cases h
   exact ih D
  rw[if_neg h];exact D
theorem xd (l cs:Bs):(Lib.trimS l cs).isEmpty=l.all (cs.contains ·):=by
 rw[Bool.eq_iff_iff,List.isEmpty_iff,List.all_eq_true];unfold Lib.trimS Lib.trimLeftS Lib.trimRightS;rw[pO];constructor
 ·intro h x D
  cases J:cs.contains x with
  | true=>rfl
  | false =>
   have H:=pP (p:=(cs.contains ·)) l.reverse x (by simpa using D) J;have I:=h x (by simpa using H);rw[J] at I;cases I
 intro h x D;have H:x∈l.reverse.dropWhile (cs.contains ·):=by simpa using D
 exact h x (by simpa using (List.dropWhile_sublist _).subset H)
theorem zG (s:Bs) (hs:s.length≤1000000000) (w:World) :
  Calls Tryz.prog 29 #[FC (bs s)] w fun e w'=>e=FF (.bool (fm s))∧aa [] w w':=by
 obtain ⟨R,h⟩:∃ R,fm s=R:=⟨_,rfl⟩
 rw[h];rcases s with _|⟨c,t⟩
 ·have Z:=Fk h
  clear h;go_enter Tryz.func29,Tryz.ntmps29
  go_wp2;go_ret;exact ⟨by rw[←Z.out];rfl,aa.refl _ _⟩
 have H:∀ W,Calls Tryz.prog 67 #[FC (bs ik),.int .u8 (((bs (c::t))[0]'(by rw[ag];simp)).toNat:Int)] W fun e w'=>e=FF (FH FI (Lib.indexByte ik c))∧W=w':=fun W=>by
  refine (Tryz.strings_IndexByte (bs ik) (((bs (c::t))[0]'(by rw[ag];simp)).toNat:Int) W).mono ?_;rintro e w' ⟨rfl,rfl⟩;refine ⟨?_,rfl⟩;have N:((bs (c::t))[0]'(by rw[ag];simp))=c:=rfl;rw[N,Int.toNat_natCast];have V:c.toNat.toUInt8=c:=by simp
  rw[V];rfl
 have M:=pN ik c;generalize Lib.indexByte ik c=q at H M;have D:=fun (W:World)=>Any.strings_Trim_laid Tryz.lays160 (by kernel_rfl) (bs (c::t)) (bs dl) W (by rw[ag];omega) (by decide) (ascii_of_all (by decide))
 have I:=xd (c::t) dl;rw[ws,ws] at D;generalize Lib.trimS (c::t) dl=u at D I;have O:=Fk H;have HT:=Fk D;have J:Hid (R=(decide ((c::t).length≤10)&&decide (0≤q)&&u.isEmpty)):=Fk (h.symm.trans (by unfold fm;rw[M,I];rfl));clear H D I M h;go_enter Tryz.func29,Tryz.ntmps29
 go_wp2_with (first|(go_at_call 67;refine (O.out _).mono ?_;rintro e w5 ⟨rfl,rfl⟩)|(go_at_call 68;refine (HT.out _).mono ?_;rintro e w6 ⟨rfl,U⟩))
 all_goals go_ret
 all_goals refine ⟨?_,by first|exact aa.of_below U|exact aa.refl _ _⟩
 all_goals rw[J.out]
 all_goals refine congrArg (fun b=>Ending.returned (.bool b)) (?_:_=_)
 all_goals first|rfl|(simp_all;done)|(simp_all;omega)|(simp_all;intros;omega)
def xg (r:Nat):Bool:=decide (r<32)||decide (126<r)||decide (r=39)
theorem uw (s:ByteArray) (D:Nat) (h:128≤(s.get! (D+0)).toNat):128≤(Utf8.decode s D).1:=by
 unfold Utf8.decode;simp only[Utf8.runeError,ge_iff_le];split
 ·omega
 repeat' split
 all_goals simp only[Bool.and_eq_true,decide_eq_true_eq] at *
 all_goals omega
theorem iU (r:Nat) (H:r<2147483648) (w:World) :
    Calls Tryz.prog 66 #[.int .i32 (r:Int)] w fun e w'=>e=FF (.bool (xg r))∧w=w':=by
  have J:decide ((r:Int)<32)=decide (r<32):=by rw[decide_eq_decide];omega
  have I:decide ((126:Int)<(r:Int))=decide (126<r):=by rw[decide_eq_decide];omega
  have D:((r:Int)==39)=decide (r=39):=by rw[Bool.eq_iff_iff];simp;omega
  have h:Hid (xg r=(decide (r<32)||decide (126<r)||decide (r=39))):=rfl;go_enter Tryz.func66,Tryz.ntmps66
  go_wp2
  all_goals go_ret
  all_goals refine ⟨?_,rfl⟩
  all_goals rw[h.out]
  all_goals first
    | rfl
    | (show Ending.returned (.bool true)=FF (.bool _)
       congr 2
       simp_all)
theorem EY (s:Bs) (D:Nat) (h:D<s.length):(bs s).get! (D+0)=s[D]:=by
 rw[Nat.add_zero];show s.toArray[D]! = _;rw[getElem!_pos s.toArray D (by simpa using h)];simp
theorem qY {w:World} {k j:Nat} (s:ByteArray) (p:Nat) (h:j≠k):(w.iterAt k s p).heap[j]? = w.heap[j]?:=by
 unfold World.iterAt;simp[Ne.symm h]
theorem pQ (s:Bs) (w:World) :
  Calls Tryz.prog 146 #[FC (bs s),.func (.func 66) #[] #[],.bool true] w fun e w'=>(∃ n:Int,e=FF (FH FI n)∧decide (0≤n)=s.any iN)∧aa [] w w':=by
 go_enter Tryz.func146,Tryz.ntmps146
 go_wp2;have av:(w.iter (bs s) 0).heap[w.heap.size]? = some (.stringIter (bs s) 0):=World.iter_heap _ _ _;have a7:aa [] w (w.iter (bs s) 0):=(aa.refl [] w).alloc _;have a1:=Fk av;have a5:=Fk a7;clear av a7;go_loopw [11] (fun _ wr=>∃ D:Nat,D≤s.length∧Hid (∀ j (hj:j<D) (hl:j<s.length),iN s[j]=false)∧wr.heap[w.heap.size]? = some (.stringIter (bs s) D)∧aa [] w wr) (fun _ wr=>s.length-wr.iterPos w.heap.size)
 case atStart=>exact ⟨0,Fu _,fun j hj=>absurd hj (by omega),a1.out,a5.out⟩
 clear a1 a5;obtain ⟨D,bb,a2,M,U⟩:=hrel;have bc:w.heap.size<wr.heap.size:=(Array.getElem?_eq_some_iff.1 M).1;by_cases hp:D<s.length
 ·have hp':D<(bs s).size:=by rw[ag];exact hp
  have a6:∀ ty,(Instr.next (FE (some ⟨w.heap.size,0,none⟩)) true ty).run Tryz.prog wr=_:=fun ty=>Lib.run_next_any_at wr w.heap.size (bs s) D ty M hp'
  have O:=Lib.iterAt_heap wr w.heap.size (bs s) D (D+(Utf8.decode (bs s) D).2) M;have Z:aa [] w (wr.iterAt w.heap.size (bs s) (D+(Utf8.decode (bs s) D).2)):=U.trans' (L':=[w.heap.size]) ⟨rfl,rfl,by rw[Lib.iterAt_size];exact Fm _,fun k hk hn=>qY _ _ (by simpa using hn)⟩ (fun x hx hl=>by simp at hx;omega);have a4:=EY s D hp;have a0:(Utf8.decode (bs s) D).1<2147483648:=by have:=decode_le (bs s) D;omega
  have a3:wr.iterPos w.heap.size=D:=iterPos_of M;have a8:=Fk a3;by_cases hA:(s[D]).toNat<128
  ·have hd:Utf8.decode (bs s) D=(s[D].toNat,1):=decode_ascii (bs s) D hp' (by rw[iR];exact hA)
   rw[hd] at a6 O Z;have aA:=Fk O;have ad:=Fk Z;generalize hb:s[D]=b at *;have HB:=Fk hb;clear O Z hb hd a4 a0 M U a3
   cases H:iN b with
   | true =>
    have hr:xg b.toNat=true:=H;have J:=fun W=>iU b.toNat (by omega) W
    rw[hr] at J;have V:=Fk J;have I:s.any iN=true:=List.any_eq_true.2 ⟨s[D],Fs hp,by rw[HB.out];exact H⟩;have N:=Fk I;clear hr J H I;go_wp2_with (go_at_call 66;refine (V.out _).mono ?_;rintro e w5 ⟨rfl,rfl⟩)
    go_ret;exact ⟨⟨(D:Int),rfl,by rw[N.out];simp⟩,ad.out⟩
   | false =>
    have hr:xg b.toNat=false:=H;have J:=fun W=>iU b.toNat (by omega) W
    rw[hr] at J;have V:=Fk J;have hno':Hid (∀ j (hj:j<D+1) (hl:j<s.length),iN s[j]=false):=fun j hj hl=>by
     by_cases h:j<D
     ·exact a2.out j h hl
     obtain rfl:j=D:=by omega
     exact (congrArg iN HB.out).trans H
    clear hr J H a2;go_wp2_with (go_at_call 66;refine (V.out _).mono ?_;rintro e w5 ⟨rfl,rfl⟩)
    go_roundw
    case rel=>exact ⟨D+1,by omega,hno',aA.out,ad.out⟩
    case measure=>rw[iterPos_of aA.out,a8.out];omega
  have ba:=uw (bs s) D (by rw[a4];omega);have H:iN s[D]=true:=by unfold iN;simp;omega
  have I:s.any iN=true:=List.any_eq_true.2 ⟨s[D],Fs hp,H⟩;generalize Utf8.decode (bs s) D=dd at *;have hr:xg dd.1=true:=by unfold xg;simp;omega
  have J:=fun W=>iU dd.1 a0 W
  rw[hr] at J;have V:=Fk J;have N:=Fk I;have ad:=Fk Z;clear hr J H I Z O a4 a3 M U;go_wp2_with (go_at_call 66;refine (V.out _).mono ?_;rintro e w5 ⟨rfl,rfl⟩)
  go_ret;exact ⟨⟨(D:Int),rfl,by rw[N.out];simp⟩,ad.out⟩
 have a6:∀ ty,(Instr.next (FE (some ⟨w.heap.size,0,none⟩)) true ty).run Tryz.prog wr=_:=fun ty=>Lib.run_next_end_at wr w.heap.size (bs s) D ty M (by rw[ag];exact hp)
 have I:s.any iN=false:=by
  rw[List.any_eq_false];intro x hx;obtain ⟨j,hj,rfl⟩:=List.getElem_of_mem hx;rw[a2.out j (by omega) hj];decide
 have N:=Fk I;have a9:=Fk U;clear I U M;go_wp2;go_ret;exact ⟨⟨-1,rfl,by rw[N.out];rfl⟩,a9.out⟩
theorem mW (s:Bs) (w:World) :
  Calls Tryz.prog 65 #[FC (bs s),.func (.func 66) #[] #[]] w fun e w'=>e=FF (.bool (s.any iN))∧aa [] w w':=by
 have M:=Fk (pQ s);have I:Calls Tryz.prog 105 #[FC (bs s),.func (.func 66) #[] #[]] w fun e w'=>(∃ n:Int,e=FF (FH FI n)∧decide (0≤n)=s.any iN)∧aa [] w w':=by
  go_enter Tryz.func105,Tryz.ntmps105
  go_wp2_with (go_at_call 146;refine (M.out _).mono ?_;rintro e N ⟨⟨n,rfl,h⟩,H⟩)
  have D:=Fk h;clear h;go_ret;exact ⟨⟨n,rfl,D.out⟩,H⟩
 have J:=Fk I;clear I;go_enter Tryz.func65,Tryz.ntmps65
 go_wp2_with fail
 refine J.out.mono ?_;rintro e N ⟨⟨n,rfl,h⟩,H⟩;have D:=Fk h;clear h;go_wp2;go_ret;exact ⟨by rw[←D.out];rfl,H⟩
theorem cp (v:Vl) (w:World) :
  Calls Tryz.prog 28 #[fV v] w fun e w'=>e=FF (.bool (eO v))∧aa [] w w':=by
 obtain ⟨k,n,s⟩:=v;show Calls _ _ #[.agg #[FH FI k,FH FI n,FC (bs s)]] w _;have O:=Fk (mW s);obtain ⟨R,D⟩:∃ R,eO ⟨k,n,s⟩=R:=⟨_,rfl⟩
 rw[D];by_cases h:k=1
 ·have M:(k==1)=true:=by rw[h];rfl
  have I:Hid (R=((s==[])&&decide (-1000000000≤n)&&decide (n≤1000000000))):=Fk (D.symm.trans (if_pos h));clear h D;go_enter Tryz.func28,Tryz.ntmps28
  go_wp2
  all_goals go_ret
  all_goals refine ⟨?_,(aa.refl _ _).alloc _⟩
  all_goals rw[I.out]
  all_goals refine congrArg (fun b=>Ending.returned (.bool b)) (?_:_=_)
  all_goals first|rfl|(simp_all;done)|(simp_all;omega)|(simp_all;intros;omega)|(simp_all;intros;exfalso;omega)
 have M:(k==1)=false:=by rw[beq_eq_false_iff_ne];exact h
 by_cases H:k=2
 ·have J:(k==2)=true:=by rw[H];rfl
  have I:Hid (R=(decide (n=0)&&decide (s.length≤16) && !s.any iN)):=Fk (D.symm.trans ((if_neg h).trans (if_pos H)));clear h H D;go_enter Tryz.func28,Tryz.ntmps28
  go_wp2_with (go_at_call 65;refine (O.out _).mono ?_;rintro e U ⟨rfl,N⟩)
  all_goals go_ret
  all_goals refine ⟨?_,by first|exact (((aa.refl _ _).alloc _).trans N)|exact ((aa.refl _ _).alloc _)⟩
  all_goals rw[I.out]
  all_goals refine congrArg (fun b=>Ending.returned (.bool b)) (?_:_=_)
  all_goals first|rfl|(simp_all;done)|(simp_all;omega)|(simp_all;intros;omega)|(simp_all;intros;exfalso;omega)
 have J:(k==2)=false:=by rw[beq_eq_false_iff_ne];exact H
 have I:Hid (R=false):=Fk (D.symm.trans ((if_neg h).trans (if_neg H)));clear h H D;go_enter Tryz.func28,Tryz.ntmps28
 go_wp2;go_ret;exact ⟨by rw[I.out];rfl,(aa.refl _ _).alloc _⟩
def eg (p:Cl→Bool) (l:List Cl):Int:=match l.findIdx? p with|some i=>(i:Int)|none=> -1
theorem si {p:Cl→Bool} {l:List Cl} {k:Nat} (h:k<l.length) (I:∀ j (D:j<k),p (l[j]'(by omega))=false) (H:p l[k]=true):eg p l=(k:Int):=by
 unfold eg;have:l.findIdx? p=some k:=by
  rw[List.findIdx?_eq_some_iff_getElem];exact ⟨h,H,fun j D=>by rw[I j D];simp⟩
 rw[this]
theorem qZ {p:Cl→Bool} {l:List Cl} (H:∀ j (h:j<l.length),p l[j]=false):eg p l= -1:=by
 unfold eg;have:l.findIdx? p=none:=by
  rw[List.findIdx?_eq_none_iff];intro x D;obtain ⟨j,h,rfl⟩:=List.getElem_of_mem D;simp[H j h]
 rw[this]
theorem sj (p:Cl→Bool) (l:List Cl):decide (0≤eg p l)=l.any p:=by
 rw[Bool.eq_iff_iff,decide_eq_true_iff,List.any_eq_true];unfold eg
 cases h:l.findIdx? p with
 | none =>
  rw[List.findIdx?_eq_none_iff] at h;simp;intro x I;simpa using h x I
 | some i =>
  rw[List.findIdx?_eq_some_iff_getElem] at h;obtain ⟨D,H,_⟩:=h;simp;exact ⟨_,Fs D,H⟩
def CY (k:Nat) (cap:Array Value) (p:Cl→Bool) (l:List Cl) (w:World):Prop :=
 ∀ c∈l,∀ W,aa [] w W→Calls Tryz.prog k (#[BM c]++cap) W fun e W'=>e=FF (.bool (p c))∧aa [] W W'
theorem iV (k:Nat) (cap:Array Value) (he:∀ args w,(callFunc k args).run Tryz.prog w= .ok (.enter k args) w) (p:Cl→Bool) (l:List Cl) (A:Option Addr) (c:Nat) (w:World) (hR:Rd w [] 2 A l.length (ai l)) (U:l.length≤4294967296) (hf:CY k cap p l w) :
  Calls Tryz.prog 71 #[FD A l.length c,.func (.func k) #[] cap] w fun e w'=>e=FF (FH FI (eg p l))∧aa [] w w':=by
 have HR:=Fk hR;have HF:=Fk hf;clear hR hf;go_enter Tryz.func71,Tryz.ntmps71
 go_wp2;go_loopw [8] (fun i wr=>∃ n:Nat,n≤l.length∧i=FH FI n∧Hid (∀ j (I:j<n) (U:j<l.length),p l[j]=false)∧aa [] w wr) (fun i _=>l.length-(intOf i).toNat)
 case atStart=>exact ⟨0,Fu _,rfl,fun j I=>absurd I (by omega),aa.refl _ _⟩
 obtain ⟨n,hn,rfl,J,O⟩:=hrel;by_cases H:n<l.length
 ·obtain ⟨b,o,rfl,_,hb,V⟩:=(HR.out.keep O).open' (by omega) (by omega)
  have d1:=V (n*2) _ (aN l n H).1;have d2:=V (n*2+1) _ (aN l n H).2;rw[←Nat.add_assoc] at d2;have HH:=HF.out l[n] (Fs H) wr O;generalize hx:l[n]=x at *;have Z:=Fk hx;have HH':=Fk HH;clear HH V hx
  cases N:p x with
  | true =>
   have D:eg p l=(n:Int):=si H (fun j I=>J j I (by omega)) ((congrArg p Z.out).trans N);rw[N] at HH';have HP:=Fk D;clear D N;go_wp2_with fail
   refine HH'.out.mono ?_;rintro e W2 ⟨rfl,M⟩;go_wp2;go_ret;exact ⟨by rw[HP.out];rfl,O.trans M⟩
  | false =>
   have hno':Hid (∀ j (I:j<n+1) (U:j<l.length),p l[j]=false):=fun j I U=>by
    by_cases h:j<n
    ·exact J j h U
    obtain rfl:j=n:=by omega
    exact (congrArg p Z.out).trans N
   rw[N] at HH';clear N;go_wp2_with fail
   refine HH'.out.mono ?_;rintro e W2 ⟨rfl,M⟩;go_wp2;go_roundw
   case rel=>exact ⟨n+1,by omega,by go_num,hno',O.trans M⟩
   case measure=>simp[intOf];omega
 have D:Hid (eg p l= -1):=qZ fun j I=>J j (by omega) I
 go_wp2;go_ret;exact ⟨by rw[D.out];rfl,O⟩
theorem fZ (k:Nat) (cap:Array Value) (H:∀ args w,(callFunc k args).run Tryz.prog w= .ok (.enter k args) w) (p:Cl→Bool) (l:List Cl) (A:Option Addr) (c:Nat) (w:World) (D:Rd w [] 2 A l.length (ai l)) (J:l.length≤4294967296) (I:CY k cap p l w) :
  Calls Tryz.prog 35 #[FD A l.length c,.func (.func k) #[] cap] w fun e w'=>e=FF (.bool (l.any p))∧aa [] w w':=by
 have M:=Fk (iV k cap H p l A c w D J I);clear D I H;rw[←sj];go_enter Tryz.func35,Tryz.ntmps35
 go_wp2_with (go_at_call 71;refine M.out.mono ?_;rintro e N ⟨rfl,h⟩)
 go_ret;exact ⟨rfl,h⟩
theorem nw {w:World} {L:List Nat} {A:Option Addr} {l:List Cl} {k:Nat} (h:Rd w L 2 A l.length (ai l)) (U:k≤l.length):Rd w L 2 A (l.take k).length (ai (l.take k)):=by
 refine ⟨nv _,fun I=>?_⟩;obtain ⟨O,e,J,D,N⟩:=h.2 (by rw[Fw] at I;omega);refine ⟨O,e,J,D,fun j u H=>N j u ?_⟩;have M:ai l=ai (l.take k)++ai (l.drop k):=by rw[←iT,List.take_append_drop]
 rw[M,List.getElem?_append_left (List.getElem?_eq_some_iff.1 H).1];exact H
theorem ux (c d:Cl) (b:Nat) (w:World) (h:w.cell? ⟨b,0,none⟩=some (FC (bs c.name))) :
  Calls Tryz.prog 51 #[BM d,FE (some ⟨b,0,none⟩)] w fun e w'=>e=FF (.bool (d.name==c.name))∧aa [] w w':=by
 have D:=Fq _ _ h;have hb':(w.alloc (FG #[FC (bs d.name),FH FI d.kind] 64)).cell? ⟨b,0,none⟩=some (FC (bs c.name)):=((aa.refl [] w).alloc _).cell_of h (by simp);show Calls _ _ #[.agg #[FC (bs d.name),FH FI d.kind],FE (some ⟨b,0,none⟩)] w _;clear h D;go_enter Tryz.func51,Tryz.ntmps51
 go_wp2;go_ret;exact ⟨rfl,(aa.refl _ _).alloc _⟩
theorem sk {l:List Cl} {n:Nat} (h:n<l.length) (D:fY l n=false):bV l=false:=by
 unfold bV;have:(List.range l.length).all (fY l)=false:=by
  rw[List.all_eq_false];exact ⟨n,List.mem_range.2 h,by rw[D];decide⟩
 rw[this,Bool.and_false]
theorem gj (l:List Cl) (A:Option Addr) (c:Nat) (w:World) (hR:Rd w [] 2 A l.length (ai l)) (hc:l.length≤c) (hn:∀ x∈l,x.name.length≤1000000000) (hl:l.length≤4294967296) :
  Calls Tryz.prog 19 #[FD A l.length c] w fun e w'=>e=FF (.bool (bV l))∧aa [] w w':=by
 have HR:=Fk hR;have HN:=Fk hn;clear hR hn;by_cases h1:1≤l.length∧l.length≤6
 ·have q1:¬((l.length:Int)<1):=by omega
  have q2:¬((6:Int)<(l.length:Int)):=by omega
  have HQ:=Fk h1;clear h1;go_enter Tryz.func19,Tryz.ntmps19
  go_wp2;go_loopw [15] (fun i wr=>∃ n:Nat,n≤l.length∧i=FH FI n∧Hid (∀ j,j<n→fY l j=true)∧aa [] w wr) (fun i _=>l.length-(intOf i).toNat)
  case atStart=>exact ⟨0,Fu _,rfl,fun j hj=>absurd hj (by omega),aa.refl _ _⟩
  obtain ⟨n,hn,rfl,a6,hk⟩:=hrel;by_cases ad:n<l.length
  ·obtain ⟨b,o,rfl,_,hb,a5⟩:=(HR.out.keep hk).open' (by omega) (by omega)
   have d1:=a5 (n*2) _ (aN l n ad).1;have d2:=a5 (n*2+1) _ (aN l n ad).2;rw[←Nat.add_assoc] at d2;have a4:=HN.out _ (Fs ad);have M:fY l n=(fm l[n].name&&(decide (l[n].kind=1)||decide (l[n].kind=2)) && !((l.take n).any fun d=>d.name==l[n].name)):=by unfold fY;rw[Fp ad]
   generalize l[n]=x at *;obtain ⟨nm,kd⟩:=x;simp only at d1 d2 a4 M;have Z:=zG nm a4;have N:=fun W (q:aa [] w W) (hx:W.cell? ⟨wr.heap.size,0,none⟩=some (FC (bs nm)))=>fZ 51 #[FE (some ⟨wr.heap.size,0,none⟩)] (enters_of Tryz.func51 (by kernel_rfl) rfl) (fun d=>d.name==nm) (l.take n) (some ⟨b,o,none⟩) c W (nw (HR.out.keep q) (by omega)) (by rw[Fw];omega) (fun d hd W2 q2=>ux ⟨nm,kd⟩ d wr.heap.size W2 (q2.cell_of hx (by simp)))
   have a2:(l.take n).length=n:=by rw[Fw];omega
   rw[a2] at N;have a3:fY l n=false→Hid (bV l=false):=fun h=>sk ad h
   have av:=Fk a3;have J:=Fk (hk.alloc (FG #[FC (bs nm),FH FI kd] 64));have a9:n≤c:=by omega
   clear a5 hk a4 a3 a2
   cases a1:fm nm with
   | false =>
    rw[a1] at Z M;have O:=Fk Z;have HF:=av.out (by rw[M];rfl);clear Z N M a1;go_wp2_with (go_at_call 29;refine (O.out _).mono ?_;rintro e w5 ⟨rfl,D⟩)
    go_ret;exact ⟨by rw[HF.out];rfl,J.out.trans D⟩
   | true =>
    rw[a1] at Z M;have O:=Fk Z;clear Z a1;by_cases I:kd=1∨kd=2
    ·have H:fY l n= !((l.take n).any fun d=>d.name==nm):=by rw[M];rcases I with rfl|rfl<;>rfl
     clear M
     cases a0:(l.take n).any (fun d=>d.name==nm) with
     | true =>
      rw[a0] at N H;have aA:=Fk N;have HF:=av.out (by rw[H];rfl);clear N H a0;rcases I with rfl|rfl
      ·go_wp2_with (first|(go_at_call 29;refine (O.out _).mono ?_;rintro e w5 ⟨rfl,D⟩;have q0:=D.cell_of (p:=⟨wr.heap.size,0,none⟩) (v:=FC (bs nm)) (by simp) (by simp);have q1:=D.cell_of (p:=⟨wr.heap.size,1,none⟩) (v:=FH FI 1) (by simp) (by simp))|(go_at_call 35;refine (aA.out _ (J.out.trans D) q0).mono ?_;rintro e w6 ⟨rfl,U⟩))
       go_ret;exact ⟨by rw[HF.out];rfl,(J.out.trans D).trans U⟩
      go_wp2_with (first|(go_at_call 29;refine (O.out _).mono ?_;rintro e w5 ⟨rfl,D⟩;have q0:=D.cell_of (p:=⟨wr.heap.size,0,none⟩) (v:=FC (bs nm)) (by simp) (by simp);have q1:=D.cell_of (p:=⟨wr.heap.size,1,none⟩) (v:=FH FI 2) (by simp) (by simp))|(go_at_call 35;refine (aA.out _ (J.out.trans D) q0).mono ?_;rintro e w6 ⟨rfl,U⟩))
      go_ret;exact ⟨by rw[HF.out];rfl,(J.out.trans D).trans U⟩
     | false =>
      rw[a0] at N H;have aA:=Fk N;have hno':Hid (∀ j,j<n+1→fY l j=true):=fun j hj=>by
       by_cases h:j<n
       ·exact a6.out j h
       obtain rfl:j=n:=by omega
       rw[H];rfl
      clear N H a0;rcases I with rfl|rfl
      ·go_wp2_with (first|(go_at_call 29;refine (O.out _).mono ?_;rintro e w5 ⟨rfl,D⟩;have q0:=D.cell_of (p:=⟨wr.heap.size,0,none⟩) (v:=FC (bs nm)) (by simp) (by simp);have q1:=D.cell_of (p:=⟨wr.heap.size,1,none⟩) (v:=FH FI 1) (by simp) (by simp))|(go_at_call 35;refine (aA.out _ (J.out.trans D) q0).mono ?_;rintro e w6 ⟨rfl,U⟩))
       go_roundw
       case rel=>exact ⟨n+1,by omega,by go_num,hno',(J.out.trans D).trans U⟩
       case measure=>simp[intOf];omega
      go_wp2_with (first|(go_at_call 29;refine (O.out _).mono ?_;rintro e w5 ⟨rfl,D⟩;have q0:=D.cell_of (p:=⟨wr.heap.size,0,none⟩) (v:=FC (bs nm)) (by simp) (by simp);have q1:=D.cell_of (p:=⟨wr.heap.size,1,none⟩) (v:=FH FI 2) (by simp) (by simp))|(go_at_call 35;refine (aA.out _ (J.out.trans D) q0).mono ?_;rintro e w6 ⟨rfl,U⟩))
      go_roundw
      case rel=>exact ⟨n+1,by omega,by go_num,hno',(J.out.trans D).trans U⟩
      case measure=>simp[intOf];omega
    have a8:(kd != 1)=true:=by rw[bne_iff_ne];exact fun h=>I (.inl h)
    have a7:(kd != 2)=true:=by rw[bne_iff_ne];exact fun h=>I (.inr h)
    have H:fY l n=false:=by rw[M];have h1:kd≠1:=fun h=>I (.inl h);have h2:kd≠2:=fun h=>I (.inr h);simp[h1,h2]
    have HF:=av.out H;clear M H N I;go_wp2_with (go_at_call 29;refine (O.out _).mono ?_;rintro e w5 ⟨rfl,D⟩;have q1:=D.cell_of (p:=⟨wr.heap.size,1,none⟩) (v:=FH FI kd) (by simp) (by simp))
    go_ret;exact ⟨by rw[HF.out];rfl,J.out.trans D⟩
  have V:Hid (bV l=true):=by
   unfold bV;have h:=HQ.out;rw[decide_eq_true h.1,decide_eq_true h.2,Bool.and_self,Bool.true_and,List.all_eq_true];intro j hj;exact a6.out j (by have:=List.mem_range.1 hj;omega)
  go_wp2;go_ret;exact ⟨by rw[V.out];rfl,hk⟩
 have V:Hid (bV l=false):=by
  unfold bV;have:(decide (1≤l.length)&&decide (l.length≤6))=false:=by
   rw[←Bool.not_eq_true,Bool.and_eq_true,decide_eq_true_iff,decide_eq_true_iff];exact h1
  rw[this,Bool.false_and];exact Fk rfl
 by_cases h2:l.length<1
 ·have h2':(l.length:Int)<1:=by omega
  clear h1;go_enter Tryz.func19,Tryz.ntmps19
  go_wp2;go_ret;exact ⟨by rw[V.out];rfl,aa.refl _ _⟩
 have h2':¬((l.length:Int)<1):=by omega
 have h3':(6:Int)<(l.length:Int):=by omega
 clear h1;go_enter Tryz.func19,Tryz.ntmps19
 go_wp2;go_ret;exact ⟨by rw[V.out];rfl,aa.refl _ _⟩
end
end Go.Proofs.YtecpeogejjibaaaGreatDoor
