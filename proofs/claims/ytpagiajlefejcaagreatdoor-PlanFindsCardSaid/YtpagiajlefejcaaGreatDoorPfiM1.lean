/- Words for memory: what a call keeps of the world, slices that read as lists outside a footprint, blocks that are known whole, strings as lists of bytes. -/
import Derived.WalkKit
import Derived.WalkLawsBesides
import Derived.BigQuiet
import Derived.Deep.QuietTactic
import Derived.Deep.RegionHeld3
import Derived.Deep.AppendLies
import Derived.Deep.DrawnRows
import Derived.Deep.LoopGhost
import Derived.Lib.Hide
import Derived.Deep.RegionLaw
import Derived.Deep.RegionWith
import Derived.StillTailTactics
import Derived.Laws.BytesString
import Derived.Lib.ItoaLen
import Derived.Lib.AtoiAll
import Derived.Lib.Join
import Derived.Lib.Bytealg
import Derived.Lib.Strings
import Derived.Lib.SlicesS
import Derived.Maps.Own
import Derived.Maps.OwnSet
import Derived.Maps.RangeWalk
import Derived.Test.YtpagiajlefejcaaGreatDoorProg
import Derived.Test.YtpagiajlefejcaaGreatDoorRows
import Derived.ProofKit
import Derived.OpenShut
import Derived.ShutString
import Derived.ChangeOld
import Derived.ChangeSlices
import Derived.SliceStrings
import Derived.Deep.Slices
import Derived.Carry
import Derived.Handed
import Derived.LaidLaws
import Derived.LaidHandle
import Derived.JoinedOf
import Derived.Stop.Joined
import Derived.Test.YtpagiajlefejcaaGreatDoorShTab
import Derived.Sort.Grow
import Derived.Lib.ConvBytes
import Derived.Laws.IdiomCopy
import Derived.Deep.MidRow
import Derived.Laws.ResultCell
import Derived.Laws.Rows
set_option linter.unusedSimpArgs false
set_option linter.unusedVariables false
set_option maxRecDepth 100000
set_option maxHeartbeats 16000000
namespace Go.Proofs.YtpagiajlefejcaaGreatDoor
open Go.Proofs.Tryz renaming prog → zy
open _root_.Nat renaming le_refl → zz, le_trans → zA, zero_le → zE
open Go.World renaming block_lt_of_cell? → zB
open _root_.List renaming mem_singleton → zD, length_append → zF, length_cons → zG, getElem_mem → zH, getElem?_eq_getElem → zI, getD_eq_getElem?_getD → zM
open Go.Value renaming string → zQ, slice → zR, int → zW
open Go.Ending renaming returned → zT
open Go.Obj renaming cells → zU
open Go.IntKind renaming i64 → zX
section
open Go.RowKit
abbrev Bs:=List UInt8
def bs (l:Bs):ByteArray:=⟨l.toArray⟩
theorem qQ (s:ByteArray):bs s.data.toList=s:=rfl
theorem ag (l:Bs):(bs l).size=l.length:=by simp[bs,ByteArray.size]
theorem tf {a b:Bs} (h:bs a=bs b):a=b:=by
 unfold bs at h;injection h with h;simpa using congrArg Array.toList h
theorem af (l:Bs):(bs l).toList=l:=by rw[ByteArray.toList_eq];simp[bs]
theorem ae (a b:Bs):bs a++bs b=bs (a++b):=by
 apply ByteArray.ext;rw[ByteArray.data_append];simp[bs]
theorem ab (l:Bs) (a b:Nat):(bs l).extract a b=bs ((l.take b).drop a):=by
 apply ByteArray.ext;rw[ByteArray.data_extract];simp[bs,List.drop_take]
theorem f4 (l:Bs) (i:Nat) (h:i<(bs l).size):(bs l)[i]=l[i]'(by rw[ag] at h;exact h):=rfl
structure aa (L:List Nat) (w w':World):Prop where
 os:w'.os=w.os
 output:w'.output=w.output
 size:w.heap.size≤w'.heap.size
 block:∀ k,k<w.heap.size→k∉L→w'.heap[k]? = w.heap[k]?
section
variable {L L':List Nat} {a w w' w'':World}
theorem aa.refl (L:List Nat) (w:World):aa L w w:=⟨rfl,rfl,zz _,fun _ _ _=>rfl⟩
theorem aa.trans' (h:aa L w w') (k:aa L' w' w'') (J:∀ x∈L',x<w.heap.size→x∈L):aa L w w'' :=
 ⟨k.os.trans h.os,k.output.trans h.output,zA h.size k.size,fun i B D =>
  (k.block i (Nat.lt_of_lt_of_le B h.size) (fun I=>D (J i I B))).trans (h.block i B D)⟩
theorem aa.trans (h:aa L w w') (k:aa L w' w''):aa L w w'':=h.trans' k fun _ B _=>B
theorem aa.weaken (h:aa L w w') (I:∀ x∈L,x<w.heap.size→x∈L'):aa L' w w' :=
 ⟨h.os,h.output,h.size,fun k B J=>h.block k B fun D=>J (I k D B)⟩
theorem aa.of_nil (h:aa [] w w'):aa L w w':=h.weaken (by simp)
theorem aa.drew (h:aa L a w):aa L a w.drew:=⟨h.os,h.output,h.size,h.block⟩
theorem aa.drewN (h:aa L a w) (n:Nat):aa L a (w.drewN n):=⟨h.os,h.output,h.size,h.block⟩
theorem aa.alloc (h:aa L a w) (o:Obj):aa L a (w.alloc o) :=
 ⟨h.os,h.output,zA h.size (by simp),fun k B D=>(Below.heap_alloc w o k (Nat.lt_of_lt_of_le B h.size)).trans (h.block k B D)⟩
theorem aa.setCell (h:aa L a w) {p:Addr} (B:p.block∈L∨a.heap.size≤p.block) (u:Value):aa L a (w.setCell p u) :=
 ⟨h.os,h.output,by simpa[World.setCell] using h.size,fun k I D=>(Below.heap_setCell w p u k (by
  rintro rfl;rcases B with B|B
  ·exact D B
  omega)).trans (h.block k I D)⟩
theorem aa.grown (h:aa L a w) {B:Option Nat} (D:w.grownBy w' B) (U:∀ g,B=some g→g∈L∨a.heap.size≤g):aa L a w' :=
 ⟨D.os.trans h.os,D.output.trans h.output,zA h.size D.size,fun k I M =>
  (D.block k (Nat.lt_of_lt_of_le I h.size) (by
   intro O;rcases U k O.symm with J|J
   ·exact M J
   omega)).trans (h.block k I M)⟩
theorem aa.frame (h:aa [] w w') (B:MemPlace→Prop):w.keptBut w' B:=by
 refine ⟨h.os,h.output,fun i D=>?_⟩;rw[h.block i D (by simp)];split<;>simp_all
theorem aa.same (h:aa [] w w') {p:MemPlace} (B:p.block<w.heap.size):w.sameAt w' p:=by
 cases p with
 | cell b o=>exact World.cell?_of_block (w:=w) (h.block b B (by simp))
 | map b=>exact h.block b B (by simp)
theorem aa.of_below (h:Below w.heap.size w w'):aa L w w':=⟨h.os,h.output,h.size,fun k B _=>h.block k B⟩
theorem aa.cell (h:aa L w w') {p:Addr} (B:p.block<w.heap.size) (D:p.block∉L):w'.cell? p=w.cell? p :=
 World.cell?_of_block (h.block p.block B D)
theorem aa.frozen (h:aa L w w') {p:Addr} (B:p.block<w.heap.size) (D:p.block∉L):w'.frozen? p=w.frozen? p :=
 World.frozen?_of_block (h.block p.block B D)
theorem aa.cell_of (h:aa L w w') {p:Addr} {v:Value} (B:w.cell? p=some v) (D:p.block∉L):w'.cell? p=some v :=
 (h.cell (zB w p B) D).trans B
end
def ap (w:World) (g:Nat) (t:TypeId) (cs:Array Value):Prop:=w.heap[g]? = some (zU cs t (0,0))
section
variable {w w':World} {g:Nat} {t:TypeId} {cs:Array Value}
theorem ap.lt (h:ap w g t cs):g<w.heap.size:=by
 rcases Nat.lt_or_ge g w.heap.size with D|B
 ·exact D
 unfold ap at h;rw[Array.getElem?_eq_none B] at h;cases h
theorem ap.cell (h:ap w g t cs) (i:Nat):w.cell? ⟨g,i,none⟩=cs[i]?:=cell_of_row w g i cs t (0,0) h
theorem ap.frozen (h:ap w g t cs) (i:Nat):w.frozen? ⟨g,i,none⟩=false:=by
 unfold ap at h;simp[World.frozen?,h]
theorem ap.new (w:World) (t:TypeId) (cs:Array Value):ap (w.alloc (zU cs t)) w.heap.size t cs:=heap_alloc_new w _
theorem ap.drew (h:ap w g t cs):ap w.drew g t cs:=h
theorem ap.drewN (h:ap w g t cs) (n:Nat):ap (w.drewN n) g t cs:=h
theorem ap.alloc (h:ap w g t cs) (o:Obj):ap (w.alloc o) g t cs:=(Below.heap_alloc w o g h.lt).trans h
theorem ap.set (h:ap w g t cs) (i:Nat) (u:Value):ap (w.setCell ⟨g,i,none⟩ u) g t (cs.setIfInBounds i u):=by
 unfold ap at h ⊢;simp[World.setCell,Array.getElem?_modify,h]
theorem ap.far (h:ap w g t cs) {p:Addr} (B:g≠p.block) (u:Value):ap (w.setCell p u) g t cs:=(Below.heap_setCell w p u g B).trans h
theorem ap.keep {L:List Nat} (h:ap w g t cs) (D:aa L w w') (B:g∉L):ap w' g t cs:=(D.block g h.lt B).trans h
theorem ap.ne {D:Nat} {t':TypeId} {cs':Array Value} (h:ap w g t cs) (h':ap w D t' cs') (B:t≠t'):g≠D:=by
 rintro rfl;unfold ap at h h';rw[h] at h';injection h' with h';injection h' with _ I;exact B I
theorem ap.congr {cs':Array Value} (h:ap w g t cs) (B:cs=cs'):ap w g t cs':=B ▸ h
end
theorem dt (a:Addr) (n:Nat):(a.add n).block=a.block:=by unfold Addr.add;split<;>rfl
theorem dU (b o j:Nat):(⟨b,o,none⟩:Addr).add j=⟨b,o+j,none⟩:=by
 unfold Addr.add;split
 ·rename_i h;subst h;rfl
 rfl
def Rd (w:World) (L:List Nat) (size:Nat) (A:Option Addr) (n:Nat) (xs:List Value):Prop :=
 xs.length=n*size∧(0<n→∃ h,A=some h∧h.block∉L∧h.block<w.heap.size∧∀ j u,xs[j]? = some u→w.cell? (h.add j)=some u)
section
variable {w w':World} {L L':List Nat} {size n:Nat} {A:Option Addr} {xs:List Value}
theorem Rd.nil:Rd w L size A 0 []:=⟨by simp,fun h=>absurd h (by omega)⟩
theorem Rd.keep (h:Rd w L size A n xs) (B:aa L w w'):Rd w' L size A n xs :=
 ⟨h.1,fun O=>by
  obtain ⟨U,e,I,D,M⟩:=h.2 O;exact ⟨U,e,I,Nat.lt_of_lt_of_le D B.size,fun j u J=>(B.cell (by rw[dt];exact D) (by rw[dt];exact I)).trans (M j u J)⟩⟩
theorem Rd.move (h:Rd w L size A n xs) (M:∀ x∈L',x<w.heap.size→x∈L):Rd w L' size A n xs :=
 ⟨h.1,fun O=>by
  obtain ⟨U,e,I,B,J⟩:=h.2 O;exact ⟨U,e,fun D=>I (M _ D B),B,J⟩⟩
theorem Rd.apart (h:Rd w L size A n xs) (B:aa L w w') (U:∀ x∈L',w.heap.size≤x):Rd w' L' size A n xs :=
 ⟨h.1,fun Z=>by
  obtain ⟨ad,e,M,D,O⟩:=h.2 Z;exact ⟨ad,e,fun I=>by have:=U _ I;omega,Nat.lt_of_lt_of_le D B.size,fun j u J=>(B.cell (by rw[dt];exact D) (by rw[dt];exact M)).trans (O j u J)⟩⟩
theorem Rd.open' (h:Rd w L size A n xs) (I:0<n) (hs:0<size):∃ b o,A=some ⟨b,o,none⟩∧b∉L∧b<w.heap.size∧∀ j u,xs[j]? = some u→w.cell? ⟨b,o+j,none⟩=some u:=by
 obtain ⟨⟨b,o,J⟩,e,Z,M,D⟩:=h.2 I;have U:0<xs.length:=by rw[h.1];exact Nat.mul_pos I hs
 have B:=World.cell?_spot (D 0 _ (zI U));have hsp':J=none:=by simpa[Addr.add] using B
 subst hsp';refine ⟨b,o,e,Z,M,fun j u O=>?_⟩;rw[←dU];exact D j u O
theorem Rd.of_own {B:Nat} {e:TypeId} {c:Nat} (h:w.ownsRow B e size (zR A n c) n xs) (J:∀ g,(Value.slice A n c).ownBlock=some g→g∉L):Rd w L size A n xs:=by
 refine ⟨h.1,fun U=>?_⟩;obtain ⟨g,M,I,_,D⟩:=h.form U;have O:A=some ⟨g,0,none⟩:=by injection I
 subst O;exact ⟨_,rfl,J g rfl,D,h.cells (g:=g) rfl⟩
end
theorem ao {w:World} {B:Nat} {e:TypeId} {size n:Nat} {v:Value} {xs:List Value} (h:w.ownsRow B e size v n xs) :
  ∃ A c,v=zR A n c∧(0<n→∃ g,A=some ⟨g,0,none⟩∧g<w.heap.size∧∀ j u,xs[j]? = some u→w.cell? ⟨g,j,none⟩=some u):=by
 rcases h.2 with ⟨rfl,rfl⟩|⟨g,D,I,rfl,O,J,r⟩
 ·exact ⟨none,0,rfl,fun h=>absurd h (by omega)⟩
 refine ⟨_,D,rfl,fun _=>⟨g,rfl,(Array.getElem?_eq_some_iff.1 J).1,fun j u M=>?_⟩⟩;have:=h.cells (g:=g) rfl j u M;rwa [dU,Nat.zero_add] at this
section
variable {w w':World} {p:Addr} {v:Value}
theorem ay (h:w.cell? p=some v∧w.frozen? p=false) (o:Obj):(w.alloc o).cell? p=some v∧(w.alloc o).frozen? p=false:=by
 have B:=zB w p h.1;exact ⟨(World.cell?_alloc_lt w o p B).trans h.1,(World.frozen?_alloc_old w o p (Nat.ne_of_lt B)).trans h.2⟩
theorem aC {L:List Nat} (B:aa L w w') (h:w.cell? p=some v∧w.frozen? p=false) (D:p.block∉L):w'.cell? p=some v∧w'.frozen? p=false :=
 ⟨B.cell_of h.1 D,(B.frozen (zB w p h.1) D).trans h.2⟩
theorem az {B:Option Nat} (I:w.grownBy w' B) (h:w.cell? p=some v∧w.frozen? p=false) (D:B≠some p.block):w'.cell? p=some v∧w'.frozen? p=false :=
 ⟨(I.cell_far p (zB w p h.1) (Ne.symm D)).trans h.1,(I.frozen_far p (zB w p h.1) (Ne.symm D)).trans h.2⟩
end
theorem bh {w w':World} {L:List Nat} {B:Nat} {e:TypeId} {size:Nat} {v:Value} {n:Nat} {xs:List Value} (h:w.ownsRow B e size v n xs) (U:aa L w w') (Z:∀ g,v.ownBlock=some g→g∉L):w'.ownsRow B e size v n xs:=by
 refine ⟨h.1,?_⟩;rcases h.2 with M|⟨g,D,I,rfl,O,J,r⟩
 ·exact .inl M
 exact .inr ⟨g,D,I,rfl,O,by rw[U.block g (Array.getElem?_eq_some_iff.1 J).1 (Z g rfl)];exact J,r⟩
end
section
structure Vl where
 kind:Int
 num:Int
 word:Bs
deriving DecidableEq
structure Cl where
 name:Bs
 kind:Int
deriving DecidableEq
structure Tb where
 cols:List Cl
 rows:List (List Vl)
deriving DecidableEq
def eK:Bs:=[97,98,99,100,101,102,103,104,105,106,107,108,109,110,111,112,113,114,115,116,117,118,119,120,121,122]
def dc:Bs:=eK++[48,49,50,51,52,53,54,55,56,57]
def fr (s:Bs):Bool:=!s.isEmpty&&decide (s.length≤10)&&eK.contains (s.getD 0 0)&&s.all (dc.contains ·)
def eL (b:UInt8):Bool:=decide (b.toNat<32)||decide (126<b.toNat)||decide (b.toNat=39)
def mf (v:Vl):Bool :=
 if v.kind=1 then (v.word==[])&&decide (-1000000000≤v.num)&&decide (v.num≤1000000000)
 else if v.kind=2 then decide (v.num=0)&&decide (v.word.length≤16) && !v.word.any eL
 else false
def dV (l:List Cl) (i:Nat):Bool:=match l[i]? with
 | some c=>fr c.name&&(decide (c.kind=1)||decide (c.kind=2)) && !((l.take i).any fun d=>d.name==c.name)
 | none=>true
def cN (l:List Cl):Bool:=decide (1≤l.length)&&decide (l.length≤6)&&(List.range l.length).all (dV l)
def qR (j:Nat):Bs:=match j with|1=>[105,110,116]|2=>[116,101,120,116]|_=>[]
def qS (n:Int):Prop:= -9223372036854775808≤n∧n≤9223372036854775807
def wQ (p:Bs):List Bs→List Bs
 | []=>[p]
 | h::t=>(p++h)::t
def tg:Bool→Bs→List Bs
 | _,[]=>[[]]
 | q,b::l=>if b=39 then wQ [b] (tg (!q) l) else if b=32 && !q then []::tg q l else wQ [b] (tg q l)
def Whole (p:Bs):Prop:=∀ r,tg false (p++r)=wQ p (tg false r)
section
variable {α:Type}
structure zt (le:α→α→Bool):Prop where
 total:∀ a b,le a b=true∨le b a=true
 trans:∀ a b c,le a b=true→le b c=true→le a c=true
variable {le:α→α→Bool}
abbrev mg (le:α→α→Bool) (a b:List α):List α:=List.merge a b le
end
structure Ar where
 col:Bs
 val:Vl
deriving DecidableEq
structure Jb where
 at_:Int
 code:Int
 outs:List Bs
 ins:List Bs
 cols:List Bs
 op:Bs
 left:Ar
 right:Ar
 retry:Int
deriving DecidableEq
def zV:Vl:=⟨0,0,[]⟩
def zC:Cl:=⟨[],0⟩
def compares:List Bs:=[[61],[60,62],[60],[60,61],[62],[62,61]]
def aw (l:List Cl) (nm:Bs):Option Nat:=l.findIdx? fun c=>c.name==nm
def bL (a:Ar) (l:List Cl):Int :=
 if a.col=[] then (if mf a.val then a.val.kind else 0)
 else match aw l a.col with
  | none=>0
  | some k=>if a.val=zV then (l.getD k zC).kind else 0
def aF (code:Int):Nat×Nat:=if code=5∨code=7 then (2,1) else if code=9 then (1,2) else if code=1∨code=2∨code=3∨code=4∨code=6∨code=8 then (1,1) else (0,0)
def bM (j:Jb) (a:List Cl):Except Int (List (List Cl)) :=
 if j.op∉compares∨j.left.col=[] then .error 1
 else match aw a j.left.col with
  | none=> .error 7
  | some k=>if bL j.right a≠(a.getD k zC).kind then .error 13 else .ok (List.replicate (if j.code=9 then 2 else 1) a)
def iU (j:Jb) (a:List Cl):Except Int (List (List Cl)) :=
 if j.cols.length≠1∨¬(j.op=[43]∨j.op=[45]∨j.op=[42]) then .error 1
 else match aw a (j.cols.headD []) with
  | none=> .error 7
  | some k=>if (a.getD k zC).kind≠1∨bL j.left a≠1∨bL j.right a≠1 then .error 13 else .ok [a]
def bK (a:List Cl):List Bs→List Bs→List Cl→Except Int (List Cl)
 | _,[],out=> .ok out
 | seen,n::ns,out=>match aw a n with
  | none=> .error 7
  | some k=>if n∈seen then .error 9 else bK a (seen++[n]) ns (out++[a.getD k zC])
def bT (j:Jb) (a:List Cl):Except Int (List (List Cl)) :=
 if j.cols.length=0∨6<j.cols.length then .error 1
 else match bK a [] j.cols [] with
  | .error e=> .error e
  | .ok out=> .ok [if j.code=4 then a else out]
def cC (j:Jb) (a:List Cl):Except Int (List (List Cl)) :=
 if j.cols.length≠2∨¬(j.op=[115,117,109]∨j.op=[109,97,120]) then .error 1
 else match aw a (j.cols.getD 0 []),aw a (j.cols.getD 1 []) with
  | some k,some m=>if (a.getD m zC).kind≠1 then .error 13 else if k=m then .error 9 else .ok [[a.getD k zC,a.getD m zC]]
  | _,_=> .error 7
def fk (out:List Cl):Bool:=(List.range out.length).any fun i=>(aw (out.take i) (out.getD i zC).name).isSome
def cy (j:Jb) (a b:List Cl):Except Int (List (List Cl)) :=
 if j.cols.length≠2 then .error 1
 else match aw a (j.cols.getD 0 []),aw b (j.cols.getD 1 []) with
  | some k,some m=>if (a.getD k zC).kind≠(b.getD m zC).kind then .error 13
   else if fk (a++b.take m++b.drop (m+1)) then .error 9
   else if 6<(a++b.take m++b.drop (m+1)).length then .error 4 else .ok [a++b.take m++b.drop (m+1)]
  | _,_=> .error 7
def cA (j:Jb) (ins:List (List Cl)):Except Int (List (List Cl)) :=
 if (aF j.code).1=0∨ins.length≠(aF j.code).1∨j.outs.length≠(aF j.code).2 then .error 1
 else if j.code=1∨j.code=9 then bM j (ins.getD 0 [])
 else if j.code=2 then iU j (ins.getD 0 [])
 else if j.code=3∨j.code=4 then bT j (ins.getD 0 [])
 else if j.code=5 then (if ins.getD 0 []≠ins.getD 1 [] then .error 13 else .ok [ins.getD 0 []])
 else if j.code=7 then cy j (ins.getD 0 []) (ins.getD 1 [])
 else if j.code=8 then cC j (ins.getD 0 [])
 else .ok [ins.getD 0 []]
structure Tk where
 kind:Int
 text:Bs
 at_:Int
deriving DecidableEq
structure In where
 at_:Int
 name:Bs
 cols:List Cl
deriving DecidableEq
structure Pb where
 at_:Int
 name:Bs
 src:Bs
deriving DecidableEq
structure Fl where
 ins:List In
 jobs:List Jb
 outs:List Pb
deriving DecidableEq
def dW (c:UInt8):Bool:=decide (97≤c.toNat)&&decide (c.toNat≤122)
def dk (c:UInt8):Bool:=decide (48≤c.toNat)&&decide (c.toNat≤57)
def iF (c:UInt8):Bool:=dW c||dk c
def eu (p:UInt8→Bool):Bs→Nat
 | []=>0
 | c::s=>if p c then eu p s+1 else 0
def an:List Bs:=[[60,62],[60,61],[62,61],[60],[62],[61],[43],[45],[42],[44],[59],[58],[46]]
def bE (s:Bs):List Bs→Nat
 | []=>0
 | m::ms=>if Lib.hasPrefix s m then m.length else bE s ms
def aR (s:Bs):Int×Nat :=
 if dW (s.headD 0) then (1,eu iF s)
 else if dk (s.headD 0) then (2,eu dk s)
 else if s.headD 0=39 then (3,if Lib.indexByte s.tail 39<0 then 0 else (Lib.indexByte s.tail 39).toNat+2)
 else (4,bE s an)
def cQ:Nat→Bs→Nat→List Tk→Except (Int×Int) (List Tk)
 | 0,_,i,h=> .ok (h++[⟨5,[],i⟩])
 | _+1,[],i,h=> .ok (h++[⟨5,[],i⟩])
 | f+1,c::t,i,h =>
  if c=32∨c=10 then cQ f t (i+1) h
  else if (aR (c::t)).2=0 then .error (3,i)
  else if h.length=400 then .error (4,i)
  else cQ f ((c::t).drop (aR (c::t)).2) (i+(aR (c::t)).2) (h++[⟨(aR (c::t)).1,(c::t).take (aR (c::t)).2,i⟩])
def kn (s:Bs):Except (Int×Int) (List Tk):=cQ s.length s 0 []
def zu:Tk:=⟨5,[],0⟩
def ax (l:List Tk):Tk:=l.headD zu
def dD {α:Type} (e:Int) (l:List Tk):Except (Int×Int) α:= .error (e,(ax l).at_)
def aG (s:Bs) (l:List Tk):Bool:=(ax l).kind != 5&&(ax l).text==s
def aq (s:Bs) (l:List Tk):Except (Int×Int) (List Tk):=if aG s l then .ok l.tail else dD 3 l
def aj (l:List Tk):Except (Int×Int) (Bs×List Tk):=if (ax l).kind≠1 then dD 3 l else if 10<(ax l).text.length then dD 4 l else .ok ((ax l).text,l.tail)
def bz:Nat→List Tk→List Bs→Except (Int×Int) ((List Bs)×List Tk)
 | 0,l,h=> .ok (h,l)
 | n+1,l,h=>if aG [44] l then do
   let (s,r) ← aj l.tail
   bz n r (h++[s])
  else .ok (h,l)
def bR (l:List Tk):Except (Int×Int) ((List Bs)×List Tk):=do
 let (s,r) ← aj l
 bz r.length r [s]
def fm (r:List Tk) (v:Vl):Except (Int×Int) (Vl×List Tk):=if mf v then .ok (v,r.tail) else dD 4 r
def fM (s:Bs):Bs:=(s.take (s.length-1)).drop 1
def bi (h:Bool) (r:List Tk):Except (Int×Int) (Vl×List Tk) :=
 if h&&(ax r).kind != 2 then dD 3 r
 else if (ax r).kind=3 then fm r ⟨2,0,fM (ax r).text⟩
 else if (ax r).kind=2 then match Lib.atoiAll (ax r).text with
  | .ok n=>fm r ⟨1,if h then -n else n,[]⟩
  | _=>dD 4 r
 else dD 3 r
def di (l:List Tk):Except (Int×Int) (Vl×List Tk):=if aG [45] l then bi true l.tail else bi false l
def bN (l:List Tk):Except (Int×Int) (Ar×List Tk):=if (ax l).kind=1 then do
  let (s,r) ← aj l
  .ok (⟨s,zV⟩,r)
 else do
  let (v,r) ← di l
  .ok (⟨[],v⟩,r)
def dm (l:List Tk):List Bs→Option Nat
 | []=>none
 | m::ms=>if aG m l then some 0 else (dm l ms).map (· + 1)
def bC (ms:List Bs) (l:List Tk):Except (Int×Int) (Bs×List Tk):=match dm l ms with
 | none=>dD 3 l
 | some k=> .ok (ms.getD k [],l.tail)
def pM (l:List Tk):Except (Int×Int) (Cl×List Tk):=do
 let (s,r) ← aj l
 let (k,r) ← bC [[105,110,116],[116,101,120,116]] r
 .ok (⟨s,if k=[116,101,120,116] then 2 else 1⟩,r)
def b8:Nat→List Tk→List Cl→Except (Int×Int) ((List Cl)×List Tk)
 | 0,l,h=> .ok (h,l)
 | n+1,l,h=>do
  let (c,r) ← pM l
  if aG [44] r then b8 n r.tail (h++[c]) else .ok (h++[c],r)
def bc (l:List Tk):Except (Int×Int) (In×List Tk):=do
 let r ← aq [105,110] l
 let (nm,r) ← aj r
 let r ← aq [58] r
 let (cs,r) ← b8 r.length r []
 let r ← aq [59] r
 .ok (⟨(ax l).at_,nm,cs⟩,r)
def fN:List Bs:=[[60,62],[60,61],[62,61],[60],[62],[61]]
def dJ (j:Jb) (l:List Tk):Except (Int×Int) (Jb×List Tk):=do
 let r ← aq [119,104,101,114,101] l
 let (s,r) ← aj r
 let (o,r) ← bC fN r
 let (a,r) ← bN r
 .ok ({ j with left:=⟨s,zV⟩,op:=o,right:=a },r)
def pN (j:Jb) (l:List Tk):Except (Int×Int) (Jb×List Tk):=do
 let (a,r) ← aj l
 let r ← aq [46] r
 let (b,r) ← aj r
 .ok ({ j with ins:=j.ins++[a],cols:=j.cols++[b] },r)
def dK:List Bs:=[[],[102,105,108,116,101,114],[115,101,116],[112,114,111,106,101,99,116],[115,111,114,116],[117,110,105,111,110],[100,105,115,116,105,110,99,116],[106,111,105,110],[103,114,111,117,112],[115,112,108,105,116]]
def gI (c:Nat):Bs:=dK.getD c []
def dE (s:Bs):List Bs→Nat→Nat
 | [],_=>0
 | m::ms,i=>if m=s then i else dE s ms (i+1)
def aQ (s:Bs):Nat:=dE s dK 0
def nI (j:Jb) (l:List Tk):Except (Int×Int) (Jb×List Tk):=do
 let r ← aq [58] l
 let (s,r) ← aj r
 let r ← aq [61] r
 let (a,r) ← bN r
 let (o,r) ← bC [[43],[45],[42]] r
 let (b,r) ← bN r
 .ok ({ j with cols:=[s],left:=a,op:=o,right:=b },r)
def td (j:Jb) (l:List Tk):Except (Int×Int) (Jb×List Tk):=do
 let r ← aq [98,121] l
 let (ns,r) ← bR r
 .ok ({ j with cols:=ns },r)
def f8 (j:Jb) (l:List Tk):Except (Int×Int) (Jb×List Tk):=do
 let r ← aq [98,121] l
 let (a,r) ← aj r
 let (o,r) ← bC [[115,117,109],[109,97,120]] r
 let (b,r) ← aj r
 .ok ({ j with cols:=[a,b],op:=o },r)
def iz (j:Jb) (l:List Tk):Except (Int×Int) (Jb×List Tk):=do
 let (j,r) ← pN j l
 let r ← aq [44] r
 pN j r
def gJ (j:Jb) (l:List Tk):Except (Int×Int) (Jb×List Tk):=do
 let (a,r) ← aj l
 let r ← aq [44] r
 let (b,r) ← aj r
 .ok ({ j with ins:=j.ins++[a]++[b] },r)
def gK (j:Jb) (l:List Tk):Except (Int×Int) (Jb×List Tk) :=
 if j.code=1∨j.code=9 then dJ j l
 else if j.code=2 then nI j l
 else if j.code=3∨j.code=4 then td j l
 else if j.code=8 then f8 j l
 else .ok (j,l)
def am (j:Jb) (l:List Tk):Except (Int×Int) (Jb×List Tk) :=
 if aQ (ax l).text=0∨(ax l).kind≠1 then dD 3 l
 else if aQ (ax l).text=7 then iz { j with code:=(aQ (ax l).text:Int) } l.tail
 else if aQ (ax l).text=5 then gJ { j with code:=(aQ (ax l).text:Int) } l.tail
 else do
  let (a,r) ← aj l.tail
  gK { j with code:=(aQ (ax l).text:Int),ins:=j.ins++[a] } r
def bF (l:List Tk):Except (Int×Int) (Int×List Tk) :=
 if aG [114,101,116,114,121] l then
  if (ax l.tail).kind≠2 then dD 3 l.tail
  else match Lib.atoiAll (ax l.tail).text with
   | .ok n=>if 5<n then dD 4 l.tail else .ok (n,l.tail.tail)
   | _=>dD 4 l.tail
 else .ok (0,l)
def aM (at_:Int) (outs:List Bs) (h:Int):Jb:=⟨at_,0,outs,[],[],[],⟨[],zV⟩,⟨[],zV⟩,h⟩
def dL (l:List Tk):Except (Int×Int) (Jb×List Tk):=do
 let r ← aq [106,111,98] l
 let (os,r) ← bR r
 let (n,r) ← bF r
 let r ← aq [61] r
 let (j,r) ← am (aM (ax l).at_ os n) r
 let r ← aq [59] r
 .ok (j,r)
def ef (l:List Tk):Except (Int×Int) (Pb×List Tk):=do
 let r ← aq [111,117,116] l
 let (a,r) ← aj r
 let r ← aq [61] r
 let (b,r) ← aj r
 let r ← aq [59] r
 .ok (⟨(ax l).at_,a,b⟩,r)
def bp {α:Type} (w:Bs) (A:List Tk→Except (Int×Int) (α×List Tk)):Nat→List Tk→List α→Except (Int×Int) ((List α)×List Tk)
 | 0,l,h=> .ok (h,l)
 | n+1,l,h=>if aG w l then (if h.length=16 then dD 4 l else do
   let (x,r) ← A l
   bp w A n r (h++[x]))
  else .ok (h,l)
def cY (l:List Tk):Except (Int×Int) (Fl×List Tk):=do
 let (a,r) ← bp [105,110] bc l.length l []
 let (b,r) ← bp [106,111,98] dL r.length r []
 let (c,r) ← bp [111,117,116] ef r.length r []
 .ok (⟨a,b,c⟩,r)
def dX (l:List Tk):Except (Int×Int) Fl:=do
 let (f,r) ← cY l
 if (ax r).kind≠5 then dD 3 r else .ok f
def fE (s:Bs):Except (Int×Int) Fl:=do
 let l ← kn s
 dX l
def j0:Jb:=⟨0,0,[],[],[],[],⟨[],zV⟩,⟨[],zV⟩,0⟩
def jb (f:Fl) (k:Nat):Jb:=f.jobs.getD k j0
def iV (f:Fl) (n:Bs):Bool:=f.ins.any fun x=>x.name==n
def mh (f:Fl) (n:Bs):Option Nat:=f.jobs.findIdx? fun j=>j.outs.contains n
def cM (f:Fl) (done:List Nat) (n:Bs):Bool:=iV f n||(match mh f n with
 | none=>false
 | some k=>done.contains k)
def br (f:Fl) (done:List Nat) (k:Nat):Bool:=(jb f k).ins.all (cM f done)
def dO (f:Fl) (out:List Nat):Option Nat:=(List.range f.jobs.length).find? fun i=> !out.contains i&&br f out i
def oz (f:Fl) (out:List Nat):Option Nat:=(List.range f.jobs.length).find? fun i=> !out.contains i
def cW (f:Fl):Nat→List Nat→Except (Int×Int) (List Nat)
 | 0,out=> .ok out
 | n+1,out=>match dO f out with
  | some k=>cW f n (out++[k])
  | none=> .error (11,(jb f ((oz f out).getD 0)).at_)
def bO (f:Fl):Except (Int×Int) (List Nat):=cW f f.jobs.length []
def aK:List (Bs×Int)→List Bs→Except (Int×Int) (List Bs)
 | [],seen=> .ok seen
 | p::l,seen=>if p.1∈seen then .error (9,p.2) else aK l (p.1::seen)
def aZ (h:List Jb):List (Bs×Int):=h.flatMap fun j=>j.outs.map fun n=>(n,j.at_)
def aV (seen:List Bs):List Jb→Except (Int×Int) Unit
 | []=> .ok ()
 | j::h=>if j.ins.any (fun n=> !decide (n∈seen)) then .error (7,j.at_) else aV seen h
def bu (seen:List Bs):List Pb→List Bs→Except (Int×Int) Unit
 | [],_=> .ok ()
 | x::l,told=>if x.src∉seen then .error (7,x.at_) else if x.name∈told then .error (9,x.at_) else bu seen l (x.name::told)
def dn (f:Fl):Except (Int×Int) Unit:=do
 let s ← aK (f.ins.map fun x=>(x.name,x.at_)) []
 let s ← aK (aZ f.jobs) s
 aV s f.jobs
 bu s f.outs []
abbrev Cm:=List (Bs×List Cl)
def ce (m:Cm) (n:Bs):List Cl:=(m.lookup n).getD []
def f9:List In→Cm→Except (Int×Int) Cm
 | [],m=> .ok m
 | x::l,m=>if cN x.cols then f9 l ((x.name,x.cols)::m) else .error (3,x.at_)
def eT:List Bs→List (List Cl)→Cm→Cm
 | n::ns,c::cs,m=>eT ns cs ((n,c)::m)
 | _,_,m=>m
def cR (f:Fl):List Nat→Cm→Except (Int×Int) Cm
 | [],m=> .ok m
 | k::h,m=>match cA (jb f k) ((jb f k).ins.map (ce m)) with
  | .error e=> .error (e,(jb f k).at_)
  | .ok cs=>cR f h (eT (jb f k).outs cs m)
def eg (f:Fl):Except (Int×Int) Cm:=do
 let m ← f9 f.ins []
 dn f
 let l ← bO f
 cR f l m
def cG (f:Fl):List Bs:=f.ins.map (·.name)++f.jobs.flatMap (·.outs)
theorem iW {f:Fl} {n:Bs}:iV f n=true↔n∈f.ins.map (·.name):=by
 unfold iV;simp only[List.any_eq_true,beq_iff_eq,List.mem_map]
theorem eI {f:Fl} {k:Nat} (h:k<f.jobs.length):jb f k=f.jobs[k]:=by
 unfold jb;rw[zM,zI h];rfl
theorem jq {f:Fl} {n:Bs} {k:Nat} (h:mh f n=some k):k<f.jobs.length∧n∈(jb f k).outs:=by
 unfold mh at h;obtain ⟨A,B,_⟩:=List.findIdx?_eq_some_iff_getElem.1 h;refine ⟨A,?_⟩;rw[eI A];simpa using B
theorem uU {A:List Jb} (h:(A.flatMap (·.outs)).Nodup) {a b:Nat} (B:a<A.length) (M:b<A.length) {n:Bs} (I:n∈A[a].outs) (D:n∈A[b].outs):a=b:=by
 induction A generalizing a b with
 | nil=>simp at B
 | cons j A ih =>
  rw[List.flatMap_cons,List.nodup_append] at h;obtain ⟨_,O,J⟩:=h
  match a,b with
  | 0,0=>rfl
  | 0,b+1=>exact absurd rfl (J n I n (List.mem_flatMap.2 ⟨A[b]'(by simpa using M),zH _,by simpa using D⟩))
  | a+1,0=>exact absurd rfl (J n D n (List.mem_flatMap.2 ⟨A[a]'(by simpa using B),zH _,by simpa using I⟩))
  | a+1,b+1=>exact congrArg (· + 1) (ih O (a:=a) (b:=b) (by simpa using B) (by simpa using M) (by simpa using I) (by simpa using D))
theorem kD {f:Fl} {done:List Nat} {n:Bs}:cM f done n=true↔iV f n=true∨∃ k,mh f n=some k∧k∈done:=by
 unfold cM;rw[Bool.or_eq_true]
 cases h:mh f n with
 | none=>simp
 | some k=>simp
structure fs (f:Fl) (l:List Nat):Prop where
 nodup:l.Nodup
 lt:∀ k∈l,k<f.jobs.length
 ready:∀ i (h:i<l.length),br f (l.take i) l[i]=true
theorem gd {f:Fl} {out:List Nat} {k:Nat} (h:dO f out=some k):k<f.jobs.length∧k∉out∧br f out k=true∧∀ j,j<k→j∉out→br f out j=false:=by
 unfold dO at h;rw[List.find?_eq_some_iff_getElem] at h;obtain ⟨A,i,J,B,I⟩:=h;rw[Bool.and_eq_true] at A;simp only[List.getElem_range] at B;subst B;refine ⟨by simpa using J,by simpa using A.1,A.2,fun j D M=>?_⟩;have:=I j D;simp only[List.getElem_range,Bool.not_and,Bool.not_not,Bool.or_eq_true] at this;rcases this with h|h
 ·exact absurd (List.contains_iff_mem.1 h) M
 simpa using h
theorem pO {f:Fl} {out:List Nat} (h:dO f out=none):∀ k,k<f.jobs.length→k∉out→br f out k=false:=by
 unfold dO at h;rw[List.find?_eq_none] at h;intro k A D;have:=h k (List.mem_range.2 A)
 cases B:br f out k with
 | false=>rfl
 | true=>exact absurd (by rw[B];simpa using D) this
theorem fs.snoc {f:Fl} {out:List Nat} (h:fs f out) {k:Nat} (I:dO f out=some k):fs f (out++[k]):=by
 obtain ⟨J,B,M,_⟩:=gd I;refine ⟨?_,?_,?_⟩
 ·rw[List.nodup_append]
  exact ⟨h.nodup,by simp,fun a U b D e=>B (by rw[zD.1 D] at e;rw[←e];exact U)⟩
 ·intro x A
  rcases List.mem_append.1 A with A|A
  ·exact h.lt x A
  rw[zD.1 A];exact J
 intro i O;rw[zF,List.length_singleton] at O;by_cases hi':i<out.length
 ·rw[List.getElem_append_left hi',List.take_append_of_le_length (Nat.le_of_lt hi')]
  exact h.ready i hi'
 obtain rfl:i=out.length:=by omega
 rw[List.getElem_append_right (zz _),List.take_left']
 ·simpa using M
 rfl
theorem kE {f:Fl}:∀ (n:Nat) (out l:List Nat),fs f out→cW f n out= .ok l→fs f l∧l.length=out.length+n
 | 0,out,l,B,h=>by cases h;exact ⟨B,rfl⟩
 | n+1,out,l,B,h=>by
  unfold cW at h
  cases A:dO f out with
  | none=>rw[A] at h;cases h
  | some k =>
   rw[A] at h;obtain ⟨I,D⟩:=kE n _ _ (B.snoc A) h;exact ⟨I,by rw[D,zF,List.length_singleton];omega⟩
theorem fs.nil (f:Fl):fs f []:=⟨by simp,fun _ h=>(by cases h),fun i h=>absurd h (by simp)⟩
theorem fO {f:Fl} {l:List Nat} (h:bO f= .ok l):fs f l∧l.length=f.jobs.length:=by
 obtain ⟨B,A⟩:=kE _ _ _ (fs.nil f) h;exact ⟨B,by simpa using A⟩
def th (f:Fl):Prop:=∃ r:Jb→Nat,∀ j∈f.jobs,∀ n∈j.ins,n∈f.ins.map (·.name)∨∃ d∈f.jobs,n∈d.outs∧r d<r j
theorem jr {α:Type} [DecidableEq α]:∀ {l m:List α},l.Nodup→(∀ x∈l,x∈m)→l.length≤m.length
 | [],_,_,_=>zE _
 | x::l,m,A,I=>by
  rw[List.nodup_cons] at A;have J:=jr (m:=m.erase x) A.2 (fun y D=>by
   have h:y≠x:=fun e=>A.1 (by rw[←e];exact D)
   exact (List.mem_erase_of_ne h).2 (I y (List.mem_cons_of_mem _ D)))
  have B:=I x (List.mem_cons_self ..);rw[List.length_erase_of_mem B] at J;have:=List.length_pos_of_mem B;rw[zG];omega
theorem oA {n:Nat} {l:List Nat} (I:l.Nodup) (h:∀ k∈l,k<n) (J:l.length=n):∀ k,k<n→k∈l:=by
 intro k B;refine Decidable.byContradiction fun D=>?_
 have:=jr (l:=k::l) (m:=List.range n) (List.nodup_cons.2 ⟨D,I⟩) (fun x A=>by
  rcases List.mem_cons.1 A with rfl|A
  ·exact List.mem_range.2 B
  exact List.mem_range.2 (h x A))
 rw[zG,List.length_range] at this;omega
theorem oB {α:Type} [DecidableEq α]:∀ {l:List α} {i:Nat} (h:i<l.length),l.idxOf l[i]≤i
 | x::l,0,_=>by simp[List.idxOf_cons]
 | x::l,i+1,h=>by
  have ih:=oB (l:=l) (i:=i) (by simpa using h);rw[List.getElem_cons_succ,List.idxOf_cons]
  cases A:(x==l[i]'(by simpa using h)) with
  | true=>exact zE _
  | false=>exact Nat.succ_le_succ ih
theorem rC {f:Fl} {l:List Nat} (M:fs f l) (hl:l.length=f.jobs.length):th f:=by
 refine ⟨fun j=>(l.map (jb f)).idxOf j,fun j hj n hn=>?_⟩;obtain ⟨k,O,rfl⟩:=List.getElem_of_mem hj;have B:=oA M.nodup M.lt hl k O;obtain ⟨p0,aA,ad⟩:=List.getElem_of_mem B;have I:(l.map (jb f)).idxOf f.jobs[k]<(l.map (jb f)).length:=List.idxOf_lt_length_of_mem (List.mem_map.2 ⟨k,B,eI O⟩);obtain ⟨p,A⟩:∃ p,(l.map (jb f)).idxOf f.jobs[k]=p:=⟨_,rfl⟩
 rw[A] at I;have D:(l.map (jb f))[p]=f.jobs[k]:=by
  have:=List.getElem_idxOf (x:=f.jobs[k]) (xs:=l.map (jb f)) (by rw[A];exact I);simpa[A] using this
 have hp':p<l.length:=by simpa using I
 rw[List.getElem_map] at D;have J:=M.ready p hp';unfold br at J;rw[D,List.all_eq_true] at J;rcases kD.1 (J n hn) with h|⟨U,h1,h2⟩
 ·exact .inl (iW.1 h)
 right
 obtain ⟨Z,h4⟩:=jq h1;refine ⟨jb f U,by rw[eI Z];exact zH Z,h4,?_⟩;show (l.map (jb f)).idxOf (jb f U)<(l.map (jb f)).idxOf f.jobs[k];rw[A];obtain ⟨q,hq,rfl⟩:=List.getElem_of_mem h2;rw[List.length_take] at hq;have hq':q<l.length:=by omega
 have e:jb f (l.take p)[q]=(l.map (jb f))[q]'(by simpa using hq'):=by rw[List.getElem_take,List.getElem_map]
 rw[e];have:=oB (l:=l.map (jb f)) (i:=q) (by simpa using hq');omega
theorem kF {n:Nat} {l:List Nat} (h:l.length<n):∃ k,k<n∧k∉l:=by
 refine Decidable.byContradiction fun I=>?_
 have A:List.range n ⊆ l:=fun k B=>Decidable.byContradiction fun D=>I ⟨k,List.mem_range.1 B,D⟩
 have:=jr List.nodup_range A;rw[List.length_range] at this;omega
theorem eU:∀ (l:List (Bs×Int)) (seen:List Bs),(∃ s,aK l seen= .ok s∧∀ n,n∈s↔n∈l.map (·.1)∨n∈seen)↔(l.map (·.1)).Nodup∧∀ n∈l.map (·.1),n∉seen
 | [],seen=>⟨fun _=>⟨by simp,fun n h=>(by simp at h)⟩,fun _=>⟨seen,rfl,fun n=>by simp⟩⟩
 | p::l,seen=>by
  have ih:=eU l (p.1::seen);unfold aK;by_cases J:p.1∈seen
  ·rw[if_pos J]
   constructor
   ·rintro ⟨s,I,_⟩;cases I
   rintro ⟨_,h⟩;exact absurd J (h p.1 (by simp))
  rw[if_neg J];constructor
  ·rintro ⟨s,I,M⟩
   have B:=ih.1 ⟨s,I,fun n=>by
    rw[M n];simp only[List.map_cons,List.mem_cons];constructor
    ·rintro ((h|h)|h)
     ·exact .inr (.inl h)
     ·exact .inl h
     exact .inr (.inr h)
    rintro (h|h|h)
    ·exact .inl (.inr h)
    ·exact .inl (.inl h)
    exact .inr h⟩
   refine ⟨?_,?_⟩
   ·rw[List.map_cons,List.nodup_cons]
    exact ⟨fun D=>B.2 _ D (List.mem_cons_self ..),B.1⟩
   intro n A;rw[List.map_cons,List.mem_cons] at A;rcases A with rfl|A
   ·exact J
   exact fun D=>B.2 n A (List.mem_cons_of_mem _ D)
  rintro ⟨O,B⟩;rw[List.map_cons,List.nodup_cons] at O;obtain ⟨s,I,M⟩:=ih.2 ⟨O.2,fun n A=>by
   rw[List.mem_cons];rintro (rfl|D)
   ·exact O.1 A
   exact B n (by rw[List.map_cons];exact List.mem_cons_of_mem _ A) D⟩
  refine ⟨s,I,fun n=>?_⟩;rw[M n];simp only[List.map_cons,List.mem_cons];constructor
  ·rintro (h|h|h)
   ·exact .inl (.inr h)
   ·exact .inl (.inl h)
   exact .inr h
  rintro ((h|h)|h)
  ·exact .inr (.inl h)
  ·exact .inl h
  exact .inr (.inr h)
theorem eV:∀ (l:List (Bs×Int)) (seen s:List Bs),aK l seen= .ok s→∀ n,n∈s↔n∈l.map (·.1)∨n∈seen
 | [],seen,s,h,n=>by cases h;simp
 | p::l,seen,s,h,n=>by
  unfold aK at h;by_cases A:p.1∈seen
  ·rw[if_pos A] at h;cases h
  rw[if_neg A] at h;rw[eV l _ s h n];simp only[List.map_cons,List.mem_cons];constructor
  ·rintro (h|h|h)
   ·exact .inl (.inr h)
   ·exact .inl (.inl h)
   exact .inr h
  rintro ((h|h)|h)
  ·exact .inr (.inl h)
  ·exact .inl h
  exact .inr (.inr h)
theorem mJ {l:List (Bs×Int)} {seen s:List Bs} (h:aK l seen= .ok s):(l.map (·.1)).Nodup∧∀ n∈l.map (·.1),n∉seen :=
 (eU l seen).1 ⟨s,h,eV l seen s h⟩
theorem ge (h:List Jb):(aZ h).map (·.1)=h.flatMap (·.outs):=by
 unfold aZ;rw[List.map_flatMap];congr 1
 funext j
 rw[List.map_map];exact List.map_id _
theorem gL {seen:List Bs}:∀ {I:List Jb},aV seen I= .ok ()↔∀ j∈I,∀ n∈j.ins,n∈seen
 | []=>by simp[aV]
 | j::I=>by
  unfold aV;by_cases h:j.ins.any (fun n=> !decide (n∈seen))=true
  ·rw[if_pos h]
   constructor
   ·intro A;cases A
   intro A;rw[List.any_eq_true] at h;obtain ⟨n,B,J⟩:=h;have:=A j (List.mem_cons_self ..) n B;simp[this] at J
  rw[if_neg h,gL];constructor
  ·intro A D hj' n B
   rcases List.mem_cons.1 hj' with rfl|hj'
   ·exact Decidable.byContradiction fun M=>h (List.any_eq_true.2 ⟨n,B,by simp[M]⟩)
   exact A D hj' n B
  exact fun A D hj'=>A D (List.mem_cons_of_mem _ hj')
theorem iG {seen:List Bs}:∀ {l:List Pb} {told:List Bs},bu seen l told= .ok ()↔(∀ x∈l,x.src∈seen)∧(l.map (·.name)).Nodup∧∀ n∈l.map (·.name),n∉told
 | [],told=>by simp[bu]
 | x::l,told=>by
  unfold bu;by_cases B:x.src∈seen
  ·by_cases D:x.name∈told
   ·rw[if_neg (fun h=>h B),if_pos D]
    constructor
    ·intro h;cases h
    rintro ⟨_,_,h⟩;exact absurd D (h _ (by simp))
   rw[if_neg (fun h=>h B),if_neg D,iG];simp only[List.map_cons,List.nodup_cons,List.mem_cons,forall_eq_or_imp];constructor
   ·rintro ⟨a,b,c⟩
    exact ⟨⟨B,a⟩,⟨fun A=>c _ A (.inl rfl),b⟩,D,fun n I A=>c n I (.inr A)⟩
   rintro ⟨⟨_,a⟩,⟨b,c⟩,_,d⟩;exact ⟨a,c,fun n I=>by
    rintro (rfl|A)
    ·exact b I
    exact d n I A⟩
  rw[if_pos B];constructor
  ·intro h;cases h
  rintro ⟨h,_⟩;exact absurd (h x (List.mem_cons_self ..)) B
structure jt (f:Fl):Prop where
 nodup:(cG f).Nodup
 ins:∀ j∈f.jobs,∀ n∈j.ins,n∈cG f
 src:∀ x∈f.outs,x.src∈cG f
 told:(f.outs.map (·.name)).Nodup
theorem pP {f:Fl}:dn f= .ok ()↔jt f:=by
 have e1:(f.ins.map fun x=>(x.name,x.at_)).map (·.1)=f.ins.map (·.name):=by rw[List.map_map];rfl
 constructor
 ·intro h
  unfold dn at h
  cases B:aK (f.ins.map fun x=>(x.name,x.at_)) [] with
  | error e=>rw[B] at h;cases h
  | ok Z =>
   rw[B] at h
   cases I:aK (aZ f.jobs) Z with
   | error e=>simp only[bind,Except.bind] at h;rw[I] at h;cases h
   | ok U =>
    simp only[bind,Except.bind] at h;rw[I] at h;simp only at h
    cases M:aV U f.jobs with
    | error e=>rw[M] at h;cases h
    | ok u =>
     rw[M] at h;simp only at h;have D:=eV _ _ _ B;have J:=eV _ _ _ I;obtain ⟨n1,-⟩:=mJ B;obtain ⟨n2,d2⟩:=mJ I;rw[e1] at D n1;rw[ge] at J n2 d2;have O:∀ n,n∈U↔n∈cG f:=fun n=>by
      rw[J n,D n];unfold cG;rw[List.mem_append];simp[or_comm]
     have hr:=gL.1 M;obtain ⟨t1,t2,-⟩:=iG.1 h;refine ⟨?_,fun j hj n A=>(O n).1 (hr j hj n A),fun x hx=>(O _).1 (t1 x hx),t2⟩;unfold cG;rw[List.nodup_append];exact ⟨n1,n2,fun a ha b hb e=>d2 b hb ((D b).2 (.inl (e ▸ ha)))⟩
 rintro ⟨B,I,M,h4⟩;unfold cG at B;rw[List.nodup_append] at B;obtain ⟨a1,a2,a3⟩:=B;obtain ⟨Z,g1,D⟩:=(eU (f.ins.map fun x=>(x.name,x.at_)) []).2 ⟨by rw[e1];exact a1,fun n _=>by simp⟩;rw[e1] at D;obtain ⟨U,g2,J⟩:=(eU (aZ f.jobs) Z).2 ⟨by rw[ge];exact a2,fun n A hh=>by
  rw[ge] at A;rcases (D n).1 hh with h|h
  ·exact a3 n h n A rfl
  cases h⟩
 rw[ge] at J;have O:∀ n,n∈cG f→n∈U:=fun n A=>by
  unfold cG at A;rw[J n,D n];rcases List.mem_append.1 A with h|h
  ·exact .inr (.inl h)
  exact .inl h
 unfold dn;rw[g1];simp only[bind,Except.bind];rw[g2];simp only;rw[gL.2 fun j hj n A=>O n (I j hj n A)];simp only;exact iG.2 ⟨fun x hx=>O _ (M x hx),h4,fun n _=>by simp⟩
theorem jt.outs {f:Fl} (h:jt f):(f.jobs.flatMap (·.outs)).Nodup:=by
 have:=h.nodup;unfold cG at this;rw[List.nodup_append] at this;exact this.2.1
theorem jt.apart {f:Fl} (h:jt f) {n:Bs} (B:n∈f.ins.map (·.name)):n∉f.jobs.flatMap (·.outs):=by
 have:=h.nodup;unfold cG at this;rw[List.nodup_append] at this;exact fun A=>this.2.2 n B n A rfl
theorem ib {j:Jb} {ins cs:List (List Cl)} (h:cA j ins= .ok cs):cs.length=j.outs.length:=by
 unfold cA at h;by_cases D:(aF j.code).1=0∨ins.length≠(aF j.code).1∨j.outs.length≠(aF j.code).2
 ·rw[if_pos D] at h;cases h
 rw[if_neg D] at h;have O:j.outs.length=(aF j.code).2:=Decidable.byContradiction fun J=>D (.inr (.inr J))
 have M:(aF j.code).1≠0:=fun J=>D (.inl J)
 by_cases A:j.code=1∨j.code=9
 ·rw[if_pos A] at h
  unfold bM at h;split at h
  ·cases h
  split at h
  ·cases h
  split at h
  ·cases h
  cases h
  rw[O,List.length_replicate];rcases A with A|A<;>rw[A]<;>rfl
 have I:j.code≠1∧j.code≠9:=⟨fun e=>A (.inl e),fun e=>A (.inr e)⟩;have B:(aF j.code).2=1:=by
  revert M
  unfold aF;rw[if_neg I.2];split
  ·intro;rfl
  split
  ·intro;rfl
  intro M;exact absurd rfl M
 have h1':cs.length=1:=by
  rw[if_neg A] at h;split at h
  ·unfold iU at h
   split at h
   ·cases h
   split at h
   ·cases h
   split at h
   ·cases h
   cases h;rfl
  split at h
  ·unfold bT at h
   split at h
   ·cases h
   split at h
   ·cases h
   cases h;rfl
  split at h
  ·split at h
   ·cases h
   cases h;rfl
  split at h
  ·unfold cy at h
   split at h
   ·cases h
   split at h
   ·split at h
    ·cases h
    split at h
    ·cases h
    split at h
    ·cases h
    cases h;rfl
   cases h
  split at h
  ·unfold cC at h
   split at h
   ·cases h
   split at h
   ·split at h
    ·cases h
    split at h
    ·cases h
    cases h;rfl
   cases h
  cases h;rfl
 rw[O,B,h1']
structure zn (f:Fl) (F:Bs→Option (List Cl)):Prop where
 ins:∀ x∈f.ins,F x.name=some x.cols
 jobs:∀ j∈f.jobs,∃ cs,cA j (j.ins.map fun n=>(F n).getD [])= .ok cs∧∀ i (h:i<j.outs.length) (h':i<cs.length),F j.outs[i]=some cs[i]
 none:∀ n,n∉cG f→F n=none
def kG (f:Fl) (done:List Nat) (n:Bs):Prop:=n∈f.ins.map (·.name)∨∃ k∈done,n∈(jb f k).outs
theorem ti {f:Fl} {done:List Nat} {n:Bs} (hd:∀ k∈done,k<f.jobs.length) (h:kG f done n):n∈cG f:=by
 unfold cG;rw[List.mem_append];rcases h with h|⟨k,A,B⟩
 ·exact .inl h
 refine .inr (List.mem_flatMap.2 ⟨jb f k,?_,B⟩);rw[eI (hd k A)];exact zH _
theorem gM:∀ {ns:List Bs} {cs:List (List Cl)} {m:Cm},ns.length=cs.length→ns.Nodup→(∀ i (h:i<ns.length) (h':i<cs.length),(eT ns cs m).lookup ns[i]=some cs[i])∧(∀ n,n∉ns→(eT ns cs m).lookup n=m.lookup n)∧(eT ns cs m).map (·.1)=ns.reverse++m.map (·.1)
 | [],[],m,_,_=>⟨fun i h=>absurd h (by simp),fun _ _=>rfl,rfl⟩
 | n::ns,c::cs,m,D,B=>by
  rw[List.nodup_cons] at B;obtain ⟨a,b,e⟩:=gM (ns:=ns) (cs:=cs) (m:=(n,c)::m) (by simpa using D) B.2;refine ⟨fun i h h'=>?_,fun x A=>?_,?_⟩
  ·cases i with
   | zero =>
    show (eT ns cs ((n,c)::m)).lookup n=some c;rw[b n B.1,List.lookup_cons];simp
   | succ i=>exact a i (by simpa using h) (by simpa using h')
  ·rw[List.mem_cons] at A
   show (eT ns cs ((n,c)::m)).lookup x=m.lookup x;rw[b x (fun I=>A (.inr I)),List.lookup_cons];have:(x==n)=false:=by simpa using fun e=>A (.inl e)
   rw[this]
  show (eT ns cs ((n,c)::m)).map (·.1)=(n::ns).reverse++m.map (·.1);rw[e,List.reverse_cons,List.append_assoc];rfl
theorem nJ:∀ {l:List In} {m B:Cm},f9 l m= .ok B→(l.map (·.name)).Nodup→(∀ x∈l,B.lookup x.name=some x.cols)∧(∀ n,n∉l.map (·.name)→B.lookup n=m.lookup n)∧B.map (·.1)=(l.map (·.name)).reverse++m.map (·.1)∧∀ x∈l,cN x.cols=true
 | [],m,B,h,_=>by cases h;exact ⟨fun x h=>(by cases h),fun _ _=>rfl,rfl,fun x h=>(by cases h)⟩
 | x::l,m,B,h,J=>by
  unfold f9 at h;by_cases I:cN x.cols=true
  ·rw[if_pos I] at h
   rw[List.map_cons,List.nodup_cons] at J;obtain ⟨a,b,e,d⟩:=nJ h J.2;refine ⟨fun y A=>?_,fun n D=>?_,?_,fun y A=>?_⟩
   ·rcases List.mem_cons.1 A with rfl|A
    ·rw[b _ J.1,List.lookup_cons];simp
    exact a y A
   ·rw[List.map_cons,List.mem_cons] at D
    rw[b n (fun M=>D (.inr M)),List.lookup_cons];have:(n==x.name)=false:=by simpa using fun e=>D (.inl e)
    rw[this]
   ·rw[e,List.map_cons,List.map_cons,List.reverse_cons,List.append_assoc];rfl
   rcases List.mem_cons.1 A with rfl|A
   ·exact I
   exact d y A
  rw[if_neg I] at h;cases h
def wR (f:Fl) (F:Bs→Option (List Cl)) (done:List Nat) (m:Cm):Prop:=(∀ n,kG f done n→m.lookup n=F n)∧(∀ n,¬kG f done n→m.lookup n=none)∧(m.map (·.1)).Nodup
theorem nK {f:Fl} (I:jt f) {done:List Nat} {k:Nat} (B:k<f.jobs.length) (hd:∀ x∈done,x<f.jobs.length) (M:k∉done) {n:Bs} (A:n∈(jb f k).outs):¬kG f done n:=by
 rw[eI B] at A;rintro (h|⟨J,hk',h⟩)
 ·exact I.apart h (List.mem_flatMap.2 ⟨_,zH B,A⟩)
 have D:=hd J hk';rw[eI D] at h;have:=uU I.outs B D A h;exact M (this ▸ hk')
theorem iH {f:Fl} (J:jt f) {k:Nat} (B:k<f.jobs.length):(jb f k).outs.Nodup:=by
 rw[eI B];have h:=J.outs;have:∀ (A:List Jb),(A.flatMap (·.outs)).Nodup→∀ j∈A,j.outs.Nodup:=fun A=>by
  induction A with
  | nil=>intro _ j I;cases I
  | cons j A ih =>
   intro h D hj';rw[List.flatMap_cons,List.nodup_append] at h;rcases List.mem_cons.1 hj' with rfl|hj'
   ·exact h.1
   exact ih h.2.1 D hj'
 exact this _ h _ (zH B)
theorem mL {f:Fl} {done:List Nat} {k:Nat} (h:br f done k=true):∀ n∈(jb f k).ins,kG f done n:=fun n I=>by
 unfold br at h;rw[List.all_eq_true] at h;rcases kD.1 (h n I) with h|⟨D,B,A⟩
 ·exact .inl (iW.1 h)
 exact .inr ⟨D,A,(jq B).2⟩
theorem qT {f:Fl} (O:jt f) {F:Bs→Option (List Cl)} {done:List Nat} {m:Cm} {k:Nat} {cs:List (List Cl)} (hA:wR f F done m) (J:k<f.jobs.length) (hd:∀ x∈done,x<f.jobs.length) (hn:k∉done)
  (hl:cs.length=(jb f k).outs.length) (hF:∀ i (h:i<(jb f k).outs.length) (h':i<cs.length),F (jb f k).outs[i]=some cs[i]):wR f F (done++[k]) (eT (jb f k).outs cs m):=by
 obtain ⟨a,b,c⟩:=hA;obtain ⟨p1,I,U⟩:=gM (ns:=(jb f k).outs) (cs:=cs) (m:=m) hl.symm (iH O J);have A:∀ n,kG f (done++[k]) n↔kG f done n∨n∈(jb f k).outs:=fun n=>by
  unfold kG;constructor
  ·rintro (h|⟨x,B,h⟩)
   ·exact .inl (.inl h)
   rcases List.mem_append.1 B with B|B
   ·exact .inl (.inr ⟨x,B,h⟩)
   rw[zD.1 B] at h;exact .inr h
  rintro ((h|⟨x,B,h⟩)|h)
  ·exact .inl h
  ·exact .inr ⟨x,List.mem_append_left _ B,h⟩
  exact .inr ⟨k,List.mem_append_right _ (zD.2 rfl),h⟩
 refine ⟨fun n h=>?_,fun n h=>?_,?_⟩
 ·by_cases D:n∈(jb f k).outs
  ·obtain ⟨i,hi,rfl⟩:=List.getElem_of_mem D
   rw[p1 i hi (by omega),hF i hi (by omega)]
  rw[I n D];exact a n (((A n).1 h).resolve_right D)
 ·rw[I n fun D=>h ((A n).2 (.inr D))]
  exact b n fun hh=>h ((A n).2 (.inl hh))
 rw[U,List.nodup_append];refine ⟨(List.reverse_perm _).nodup_iff.2 (iH O J),c,fun x B y hy e=>?_⟩;subst e;have Z:=b x (nK O J hd hn (List.mem_reverse.1 B));have:(m.lookup x).isSome=true:=by
  clear Z p1 I U a b c
  induction m with
  | nil=>cases hy
  | cons q m ih =>
   obtain ⟨q1,q2⟩:=q;rw[List.lookup_cons];by_cases M:x=q1
   ·subst M;simp
   have hq':(x==q1)=false:=by simpa using M
   rw[hq'];exact ih ((List.mem_cons.1 hy).resolve_left M)
 rw[Z] at this;cases this
theorem fs.at {f:Fl} {done l:List Nat} {k:Nat} (h:fs f (done++k::l)):br f done k=true∧k<f.jobs.length∧k∉done∧∀ x∈done,x<f.jobs.length:=by
 have A:=h.ready done.length (by simp);rw[List.take_left' rfl,List.getElem_append_right (zz _)] at A;refine ⟨by simpa using A,h.lt k (by simp),fun B=>?_,fun x D=>h.lt x (List.mem_append_left _ D)⟩;have:=h.nodup;rw[List.nodup_append] at this;exact this.2.2 k B k (List.mem_cons_self ..) rfl
theorem mM {f:Fl} (O:jt f) {F:Bs→Option (List Cl)} (M:zn f F):∀ (l done:List Nat) (m:Cm),fs f (done++l)→wR f F done m→∃ A,cR f l m= .ok A∧wR f F (done++l) A
 | [],done,m,_,h=>⟨m,rfl,by rw[List.append_nil];exact h⟩
 | k::l,done,m,U,h=>by
  obtain ⟨hr,D,B,hd⟩:=U.at;obtain ⟨cs,J,Z⟩:=M.jobs (jb f k) (by rw[eI D];exact zH _);have e:(jb f k).ins.map (ce m)=(jb f k).ins.map fun n=>(F n).getD []:=List.map_congr_left fun n B=>by
   unfold ce;rw[h.1 n (mL hr n B)]
  have hA':=qT O h D hd B (ib J) Z;obtain ⟨A,h3,I⟩:=mM O M l (done++[k]) _ (by rw[List.append_assoc];exact U) hA';refine ⟨A,?_,by rw[List.append_assoc] at I;exact I⟩;unfold cR;rw[e,J];exact h3
theorem kH {f:Fl} (O:jt f):∀ (l done:List Nat) (m B:Cm),fs f (done++l)→(∀ n,¬kG f done n→m.lookup n=none)→(m.map (·.1)).Nodup→cR f l m= .ok B →
  (∀ n,kG f done n→B.lookup n=m.lookup n)∧∀ k∈l,∃ cs,cA (jb f k) ((jb f k).ins.map (ce B))= .ok cs∧∀ i (h:i<(jb f k).outs.length) (h':i<cs.length),B.lookup (jb f k).outs[i]=some cs[i]
 | [],done,m,B,_,_,_,h=>by cases h;exact ⟨fun _ _=>rfl,fun k I=>(by cases I)⟩
 | k::l,done,m,B,hv,hb,hc,h=>by
  obtain ⟨hr,I,hn,hd⟩:=hv.at;unfold cR at h
  cases U:cA (jb f k) ((jb f k).ins.map (ce m)) with
  | error e=>rw[U] at h;cases h
  | ok cs =>
   rw[U] at h;have hl:=ib U;obtain ⟨p1,p2,p3⟩:=gM (ns:=(jb f k).outs) (cs:=cs) (m:=m) hl.symm (iH O I);have hA:wR f (fun n=>(eT (jb f k).outs cs m).lookup n) (done++[k]) (eT (jb f k).outs cs m):=by
    have Z:wR f (fun n=>(eT (jb f k).outs cs m).lookup n) done m:=⟨fun n D=>(p2 n fun ho=>nK O I hd hn ho D).symm,hb,hc⟩;exact qT O Z I hd hn hl p1
   obtain ⟨q1,q2⟩:=kH O l (done++[k]) _ B (by rw[List.append_assoc];exact hv) hA.2.1 hA.2.2 h;have A:∀ n,kG f done n→B.lookup n=m.lookup n:=fun n M=>by
    rw[q1 n (by
     rcases M with h|⟨x,J,h⟩
     ·exact .inl h
     exact .inr ⟨x,List.mem_append_left _ J,h⟩)]
    exact p2 n fun ho=>nK O I hd hn ho M
   refine ⟨A,fun x J=>?_⟩;rcases List.mem_cons.1 J with rfl|J
   ·refine ⟨cs,?_,fun i hi hi'=>?_⟩
    ·rw[←U]
     congr 1
     exact List.map_congr_left fun n D=>by unfold ce;rw[A n (mL hr n D)]
    rw[q1 _ (.inr ⟨x,List.mem_append_right _ (zD.2 rfl),zH hi⟩),p1 i hi hi']
   exact q2 x J
theorem oC {f:Fl} {m:Cm} (h:eg f= .ok m):∃ A l,f9 f.ins []= .ok A∧jt f∧bO f= .ok l∧cR f l A= .ok m:=by
 unfold eg at h
 cases D:f9 f.ins [] with
 | error e=>rw[D] at h;cases h
 | ok A =>
  rw[D] at h;simp only[bind,Except.bind] at h
  cases B:dn f with
  | error e=>rw[B] at h;cases h
  | ok u =>
   rw[B] at h;simp only at h
   cases I:bO f with
   | error e=>rw[I] at h;cases h
   | ok l =>
    rw[I] at h;exact ⟨A,l,rfl,pP.1 B,rfl,h⟩
theorem yq {f:Fl} (O:jt f) {F:Bs→Option (List Cl)} (J:∀ x∈f.ins,F x.name=some x.cols) {A:Cm} (h:f9 f.ins []= .ok A):wR f F [] A:=by
 have D:(f.ins.map (·.name)).Nodup:=by
  have:=O.nodup;unfold cG at this;rw[List.nodup_append] at this;exact this.1
 obtain ⟨a,b,c,d⟩:=nJ h D;refine ⟨fun n hd=>?_,fun n hd=>?_,?_⟩
 ·rcases hd with hd|⟨k,I,_⟩
  ·obtain ⟨x,B,rfl⟩:=List.mem_map.1 hd
   rw[a x B,J x B]
  cases I
 ·exact b n fun M=>hd (.inl M)
 rw[c,List.map_nil,List.append_nil];exact (List.reverse_perm _).nodup_iff.2 D
structure yr (f:Fl) (m:Cm):Prop where
 cols:∀ x∈f.ins,cN x.cols=true
 names:jt f
 ranked:th f
 sol:zn f fun n=>m.lookup n
 keys:(m.map (·.1)).Nodup
theorem tj {f:Fl} {m:Cm} (h:eg f= .ok m):yr f m:=by
 obtain ⟨m0,l,Z,J,h3,h4⟩:=oC h;obtain ⟨M,hl⟩:=fO h3;have hn:(f.ins.map (·.name)).Nodup:=by
  have:=J.nodup;unfold cG at this;rw[List.nodup_append] at this;exact this.1
 obtain ⟨a,b,c,d⟩:=nJ Z hn;have hA:=yq J (F:=fun n=>m0.lookup n) a Z;obtain ⟨q1,q2⟩:=kH J l [] m0 m M hA.2.1 hA.2.2 h4;have D:∀ x∈f.ins,m.lookup x.name=some x.cols:=fun x I=>by rw[q1 _ (.inl (List.mem_map.2 ⟨x,I,rfl⟩)),a x I]
 have B:∀ j∈f.jobs,∃ cs,cA j (j.ins.map fun n=>(m.lookup n).getD [])= .ok cs∧∀ i (h:i<j.outs.length) (h':i<cs.length),m.lookup j.outs[i]=some cs[i]:=fun j U=>by
  obtain ⟨k,O,rfl⟩:=List.getElem_of_mem U;obtain ⟨cs,e1,e2⟩:=q2 k (oA M.nodup M.lt hl k O);rw[eI O] at e1;have e2':∀ i (h:i<f.jobs[k].outs.length) (h':i<cs.length),m.lookup f.jobs[k].outs[i]=some cs[i]:=by
   have e3:=eI O;intro i h h';have:=e2 i (by rw[e3];exact h) h';simpa only[e3] using this
  exact ⟨cs,e1,e2'⟩
 obtain ⟨m',h5,h6⟩:=mM (F:=fun n=>if n∈cG f then m.lookup n else none) J ⟨fun x I=>by
   show (if x.name∈cG f then m.lookup x.name else none)=some x.cols;rw[if_pos (by unfold cG;exact List.mem_append_left _ (List.mem_map.2 ⟨x,I,rfl⟩)),D x I],fun j U=>by
   obtain ⟨cs,e1,e2⟩:=B j U;refine ⟨cs,?_,fun i hi hi'=>?_⟩
   ·rw[←e1]
    congr 1
    exact List.map_congr_left fun n A=>by rw[if_pos (J.ins j U n A)]
   ·show (if j.outs[i]∈cG f then m.lookup j.outs[i] else none)=some cs[i]
    rw[if_pos (by unfold cG;exact List.mem_append_right _ (List.mem_flatMap.2 ⟨j,U,zH hi⟩)),e2 i hi hi'],fun n A=>by
   show (if n∈cG f then m.lookup n else none)=none;rw[if_neg A]⟩ l [] m0 M (yq J (fun x I=>by
   show (if x.name∈cG f then m.lookup x.name else none)=some x.cols;rw[if_pos (by unfold cG;exact List.mem_append_left _ (List.mem_map.2 ⟨x,I,rfl⟩)),D x I]) Z)
 rw[h4] at h5;cases h5
 exact ⟨d,J,rC M hl,⟨D,B,fun n A=>h6.2.1 n fun hd=>A (ti (fun k O=>M.lt k O) hd)⟩,h6.2.2⟩
end
section
open Go.RowKit Go.Maps
def wS (v:Value):Option (DataW Value×List MemPlace):=some (.held v,[])
def ew (P:Program) (K:TypeId) (w:World) (b n:Nat) (m:Int→Option Value):Prop :=
 ∃ D:DataW Value,w.ownsMap P K wS b n D∧∀ k:Int,(Lit.int .i64 k).wf=true→Maps.has D (.int .i64 k)=(m k).isSome∧∀ v,m k=some v→∀ z,D.atKey (.int .i64 k) z= .held v
section
variable {P:Program} {T K E:TypeId} {w w':World} {b n:Nat} {m:Int→Option Value}
theorem ew.lt (h:ew P K w b n m):b<w.heap.size:=by obtain ⟨D,h,_⟩:=h;exact h.lt
theorem ew.made (w:World):ew P K (w.alloc (.map #[] 0)) w.heap.size 0 fun _=>none :=
 ⟨_,World.ownsMap_made w _ _ _,fun k _=>⟨rfl,fun _ h=>by cases h⟩⟩
theorem ew.of_block (h:ew P K w b n m) (O:w'.heap[b]? = w.heap[b]?):ew P K w' b n m:=by
 obtain ⟨D,⟨J,A,I,B⟩,M⟩:=h;exact ⟨D,⟨J,A,O.trans I,B⟩,M⟩
theorem ew.keep {L:List Nat} (h:ew P K w b n m) (A:aa L w w') (B:b∉L):ew P K w' b n m:=h.of_block (A.block b h.lt B)
theorem ew.mono (h:ew P K w b n m) {n':Nat} (I:n≤n'):ew P K w b n' m:=by
 obtain ⟨D,B,A⟩:=h;exact ⟨D,B.mono I,A⟩
theorem ew.congr {A:Int→Option Value} (h:ew P K w b n m) (e:m=A):ew P K w b n A:=e ▸ h
theorem ew.look (h:ew P K w b n m) (hT:P.underlying T=some (.map K E)) (O:P.underlying K=some (.int .i64)) {z:Value} (hz:(zeroValue E).run P w= .ok z w) (k:Int) (I:(Lit.int .i64 k).wf=true) :
  (Instr.lookup T (.map (some b)) (.int .i64 k) false).run P w= .ok ((m k).getD z) w:=by
 obtain ⟨D,h1,M⟩:=h;have A:keyOf P K (.int .i64 k)=some (.int .i64 k):=keyOf_int_mk O I;obtain ⟨v,ps,B,J⟩:=h1.lookup (int_keyed O) hT hz (zd:= .held z) (zp:=[]) rfl A;rw[B];have hv':DataW.held v=D.atKey (.int .i64 k) (.held z):=by
  injection J with J;exact congrArg Prod.fst J
 cases U:m k with
 | some u =>
  rw[(M k I).2 u U] at hv';injection hv' with e;rw[e];rfl
 | none =>
  have Z:Maps.has D (.int .i64 k)=false:=by rw[(M k I).1,U];rfl
  rw[atKey_of_not_has Z] at hv';injection hv' with e;rw[e];rfl
theorem ew.store (h:ew P K w b n m) (hT:P.underlying T=some (.map K E)) (Z:P.underlying K=some (.int .i64)) (k:Int) (v:Value) (hk:(Lit.int .i64 k).wf=true) (hn:n<maxLen) :
  ∃ w',(Instr.mapUpdate T (.map (some b)) (.int .i64 k) v).run P w= .ok () w'∧ew P K w' b (n+1) (fun x=>if x=k then some v else m x)∧w.grownBy w' (some b):=by
 obtain ⟨D,h1,U⟩:=h;have B:keyOf P K (.int .i64 k)=some (.int .i64 k):=keyOf_int_mk Z hk;obtain ⟨w',I,h3,h4⟩:=h1.update (int_keyed Z) hT hn B (d:= .held v) (ps:=[]) rfl;have hm:=h1.isMap;refine ⟨w',I,⟨_,h3,fun x J=>?_⟩,h4⟩;by_cases O:x=k
 ·subst O
  simp only[if_pos];exact ⟨by rw[has_put_same hm (by trivial)];rfl,fun u M z=>by
   cases M
   rw[atKey_put_same hm (by trivial)]⟩
 have A:(Lit.int IntKind.i64 x)≠Lit.int .i64 k:=fun e=>O (by injection e)
 simp only[if_neg O];refine ⟨?_,fun u M z=>?_⟩
 ·rw[has_put_other A];exact (U x J).1
 rw[atKey_put_other A];exact (U x J).2 u M z
end
end
section
open Go.RowKit
structure KW (w0:World) where
 w:World
 k:aa [] w0 w
instance (w0:World):Inhabited (KW w0):=⟨⟨w0,aa.refl [] w0⟩⟩
theorem aB {P:Program} {id:Nat} {Q:Exit→Act→World→Prop} {a:Act} {w:World} {l:List Oper} (B:P.follows .mixedOrders=true) (D:Region.lexB .any l.toArray=true)
  (h:wpQuiet P l.toArray (fun w'=>∃ p:KW w,w'=p.w) (fun A=>∀ w',aa [] w w'→Q .normal A w') l a):(Code.region id l.toArray true).wp P Q a w:=by
 have e:(fun A=>∀ w',aa [] w w'→Q .normal A w')=fun A=>∀ w',(∃ p:KW w,w'=p.w)→Q .normal A w':=by
  funext A
  exact propext ⟨fun h w' ⟨p,e⟩=>h w' (e ▸ p.k),fun h w' k=>h w' ⟨⟨w',k⟩,rfl⟩⟩
 rw[e] at h;exact wp_region_quiet (C:=fun w'=>∃ p:KW w,w'=p.w) B D ⟨⟨w.drew,(aa.refl [] w).drew⟩,rfl⟩ (by simpa using h)
theorem KW.cell {w0:World} (p:KW w0) (b o:Nat) (h:b<w0.heap.size):p.w.cell? ⟨b,o,none⟩=w0.cell? ⟨b,o,none⟩:=p.k.cell h (by simp)
theorem KW.of {P:Program} {f:FuncId} {args:Array Value} {w0:World} {v:Value} (h:∀ W,aa [] w0 W→Calls P f args W fun e B=>e=zT v∧aa [] W B) (p:KW w0) :
  Calls P f args p.w fun e A=>e=zT v∧∃ q:KW w0,A=q.w :=
 (h p.w p.k).mono fun _ B ⟨I,D⟩=>⟨I,⟨B,p.k.trans D⟩,rfl⟩
def strs (l:List Bs):List Value:=l.map fun s=>zQ (bs s)
theorem jR (l:List Bs):(strs l).length=l.length:=by simp[strs]
theorem b9 (l:List Bs) (k:Nat) (h:k<l.length):(strs l)[k]? = some (zQ (bs l[k])):=by simp[strs,h]
theorem eP (l:List Bs) (s:Bs):strs (l++[s])=strs l++[zQ (bs s)]:=by simp[strs]
theorem jv {P:Program} {T:TypeId} (J:P.underlying T=some .string) (s:Bs) (A h:Nat) (M:A≤h) (B:h≤s.length) (W:World) :
  (Instr.slice T (zQ (bs s)) (some (zW zX (A:Int))) (some (zW zX (h:Int))) none).run P W= .ok (zQ (bs ((s.take h).drop A))) W:=by
 have U:(A:Int)≤(h:Int):=by omega
 have D:(h:Int)≤(s.length:Int):=by omega
 have e:(bs s).extract A h=bs ((s.take h).drop A):=ab s A h;rw[←e];have O:h≤(bs s).size:=by rw[ag];exact B
 have I:(h:Int)≤((bs s).size:Int):=by rw[ag];exact D
 go_simp
end
section
open Go.RowKit Go.ChangeShapes Go.WideShapes
theorem Fr.own:ownKnob Tryz.prog.godebug=none:=by kernel_rfl
theorem Fr.laidOut:laidOutB zy=true:=by kernel_rfl
section
variable {P:Program} {H:Type} {enc:TypeId×Value→H} {W:World} {r:Reach} {base:Nat} {t e:TypeId} {v:Value} {d:DataW H} {p:List MemPlace}
theorem aa.trod {I:World} (J:laidOutB P=true) (M:P.readableRec t=true) (B:t<P.types.size)
  (h:DataW.Trod enc P W 0 (fun _=>true) true t v d p) (O:aa [] W I) (A:∀ x∈p,x.block<W.heap.size) :
  DataW.Trod enc P I 0 (fun b=>decide (b<W.heap.size)) true t v d p :=
 WideElems.Trod_stays J M B h (fun x D=>O.same (A x D)) (fun x D=>by simpa using A x D)
end
end
section
open Go.RowKit
attribute [local go_sem] ag ab ae af
theorem gg {W:World} {g A n size:Nat} {e:TypeId} {cs:Array Value} (h:ap W g e cs) (I:A≤g) (B:cs.size=n*size) (D:n≤maxLen):W.ownsRow A e size (zR (some ⟨g,0,none⟩) n n) n cs.toList :=
 ⟨by simpa using B,.inr ⟨g,n,cs,rfl,I,h,zz _,D,B,by rw[←B];exact List.take_of_length_le (by simp)⟩⟩
end
section
open Go.RowKit
def wT (v:Vl):List Value:=[zW zX v.kind,zW zX v.num,zQ (bs v.word)]
def fG (c:Cl):List Value:=[zQ (bs c.name),zW zX c.kind]
def wU (v:Vl):Value:= .agg #[zW zX v.kind,zW zX v.num,zQ (bs v.word)]
def wV (c:Cl):Value:= .agg #[zQ (bs c.name),zW zX c.kind]
def uV (l:List Vl):List Value:=l.flatMap wT
def ah (l:List Cl):List Value:=l.flatMap fG
theorem eX (l:List Cl):(ah l).length=l.length*2:=by
 induction l with
 | nil=>rfl
 | cons p l ih=>simp[ah,fG] at ih ⊢;omega
theorem kN (l m:List Cl):ah (l++m)=ah l++ah m:=by simp[ah]
theorem al (l:List Cl) (k:Nat) (h:k<l.length):(ah l)[k*2]? = some (zQ (bs l[k].name))∧(ah l)[k*2+1]? = some (zW zX l[k].kind):=by
 induction l generalizing k with
 | nil=>simp at h
 | cons p l ih =>
  rcases k with _|k
  ·simp[ah,fG]
  have:=ih k (by simpa using h);simpa[ah,fG,Nat.succ_mul] using this
def qU (w:World) (L:List Nat) (u:Value) (r:List Vl):Prop:=∃ A c,u=zR A r.length c∧r.length≤c∧Rd w L 3 A r.length (uV r)
def nN (w:World) (L:List Nat) (A:Option Addr) (rs:List (List Vl)):Prop :=
 ∃ B:List Value,B.length=rs.length∧Rd w L 1 A rs.length B∧∀ i (h:i<B.length) (h':i<rs.length),qU w L B[i] rs[i]
section
variable {w w':World} {L L':List Nat} {A:Option Addr} {rs:List (List Vl)} {u:Value} {r:List Vl}
theorem qU.keep (h:qU w L u r) (B:aa L w w'):qU w' L u r:=by
 obtain ⟨A,c,e,D,h⟩:=h;exact ⟨A,c,e,D,h.keep B⟩
theorem nN.keep (h:nN w L A rs) (B:aa L w w'):nN w' L A rs:=by
 obtain ⟨D,J,I,M⟩:=h;exact ⟨D,J,I.keep B,fun i a b=>(M i a b).keep B⟩
end
end
section
open Go.RowKit Go.Sort
attribute [local go_sem] ag ab ae af
theorem jS {P:Program} {w w':World} {nm:String} {k:IntKind} {zs:List Int} (h:Lib.TabIs P w nm k zs) (I:aa [] w w'):Lib.TabIs P w' nm k zs:=by
 unfold Lib.TabIs World.var? at *
 cases D:P.globalNamed nm with
 | none=>rw[D] at h;cases h
 | some g =>
  rw[D] at h;simp only[Option.bind_some] at h ⊢
  cases B:w.heap[g]? with
  | none=>rw[B] at h;cases h
  | some o =>
   have A:g<w.heap.size:=(Array.getElem?_eq_some_iff.1 B).1;rw[I.block g A (by simp)];exact h
end
section
open Go.RowKit
attribute [local go_sem] ag ab ae af
theorem qV {l:Bs} {v:Int} (h:Lib.atoiAll l= .ok v):qS v:=by
 unfold Lib.atoiAll at h;split at h
 ·cases h
 simp only at h;split at h
 ·cases h
 ·cases h
 rename_i u _;split at h
 ·cases h
 split at h
 ·cases h
 injection h with h;subst h;unfold qS;split<;>omega
theorem oE (s:Bs) (O:s.length≤1000000000) (w:World) (D:∃ t p,w.cell? ⟨6,0,none⟩=some (.iface t p)) (B:∃ t p,w.cell? ⟨7,0,none⟩=some (.iface t p)) :
  (∃ v,Lib.atoiAll s= .ok v∧qS v∧Calls zy 65 #[zQ (bs s)] w fun e w'=>e=zT (.tuple #[zW zX v,.nilIface])∧aa [] w w') ∨
  ((∀ v,Lib.atoiAll s≠ .ok v)∧Calls zy 65 #[zQ (bs s)] w fun e w'=>(∃ n t p,e=zT (.tuple #[zW zX n,.iface t p]))∧aa [] w w'):=by
 rcases h:Lib.atoiAll s with v|_|_
 ·
  left
  refine ⟨v,rfl,qV h,(Tryz.strconv_Atoi_ok (bs s) (by rw[ag];omega) v h w).mono ?_⟩;rintro e w' ⟨rfl,M⟩;refine ⟨rfl,?_⟩;rcases M with rfl|⟨t,rfl⟩
  ·exact aa.refl _ _
  exact aa.of_below (Lib.bytesWorld_below _ _ _)
 ·
  right
  refine ⟨fun v I=>(by cases I),?_⟩;obtain ⟨t,p,J⟩:=D;refine (Tryz.strconv_Atoi_syntax (bs s) (by rw[ag];omega) h (.iface t p) w J (.inr ⟨_,_,rfl⟩)).mono ?_;rintro e w' ⟨N,rfl,_,_,A⟩;exact ⟨⟨_,_,_,rfl⟩,aa.of_below A⟩
 
 right
 refine ⟨fun v I=>(by cases I),?_⟩;obtain ⟨t,p,J⟩:=B;refine (Tryz.strconv_Atoi_range (bs s) (by rw[ag];omega) h (.iface t p) w J (.inr ⟨_,_,rfl⟩)).mono ?_;rintro e w' ⟨N,rfl,_,_,A⟩;exact ⟨⟨_,_,_,rfl⟩,aa.of_below A⟩
end
section
open Go.RowKit
theorem ap.new' (W:World) (k:Nat) (t:TypeId) (c:Array Value) (h:k=W.heap.size):ap (W.alloc (zU c t)) k t c:=h ▸ ap.new W t c
end
section
end
section
open Go.RowKit Go.BigFrame
attribute [local go_sem] ag ab ae af
end
end Go.Proofs.YtpagiajlefejcaaGreatDoor
