/- Words and laws that the proof of EvalMore leans on. No condition. -/
import Derived.WalkKit
import Derived.WalkLawsBesides
import Derived.BigQuiet
import Derived.Deep.QuietTactic
import Derived.Deep.RegionHeld3
import Derived.Deep.AppendLies
import Derived.Deep.DrawnRows
import Derived.Deep.LoopGhost
import Derived.Lib.Hide
import Derived.Deep.RegionLaw
import Derived.Deep.RegionWith
import Derived.StillTailTactics
import Derived.Laws.BytesString
import Derived.Test.YtecpeogejjibaaaGreatDoorRows
import Derived.ProofKit
import Derived.OpenShut
import Derived.ShutString
import Derived.ChangeOld
import Derived.ChangeSlices
import Derived.SliceStrings
import Derived.Deep.Slices
import Derived.Carry
import Derived.Handed
import Derived.LaidLaws
import Derived.LaidHandle
import Derived.JoinedOf
import Derived.Stop.Joined
import Derived.Lib.ItoaLen
import Derived.Lib.AtoiAll
import Derived.Test.YtecpeogejjibaaaGreatDoorProg
import Derived.Deep.Fields
import Derived.Lib.SmallJoins
import Derived.Test.YtecpeogejjibaaaGreatDoorShTab
import Derived.Shelf.Strings.SlTrimAscii
import Derived.Lib.OthersKept
import Derived.RowKit
set_option linter.unusedSimpArgs false
set_option linter.unusedVariables false
set_option maxRecDepth 100000
set_option maxHeartbeats 16000000
namespace Go.Proofs.YtecpeogejjibaaaGreatDoor
open Go.Lib renaming hid → Fx
open _root_.Nat renaming le_refl → Fy, le_trans → FD, zero_le → FF
open _root_.List renaming length_append → Fz, getElem?_eq_getElem → FA, getElem_mem → FE, length_cons → FG, length_take → FH
open Go.World renaming block_lt_of_cell? → FC
open Go.Value renaming string → FM, slice → FN, pointer → FO, int → FR
open Go.Ending renaming returned → FP
open Go.Obj renaming cells → FQ
open Go.IntKind renaming i64 → FS
section
open Go.RowKit
abbrev Bs:=List UInt8
def bs (l:Bs):ByteArray:=⟨l.toArray⟩
theorem vY (s:ByteArray):bs s.data.toList=s:=rfl
theorem ag (l:Bs):(bs l).size=l.length:=by simp[bs,ByteArray.size]
theorem zx {a b:Bs} (h:bs a=bs b):a=b:=by
 unfold bs at h;injection h with h;simpa using congrArg Array.toList h
theorem af (l:Bs):(bs l).toList=l:=by rw[ByteArray.toList_eq];simp[bs]
theorem ae (a b:Bs):bs a++bs b=bs (a++b):=by
 apply ByteArray.ext;rw[ByteArray.data_append];simp[bs]
theorem ab (l:Bs) (a b:Nat):(bs l).extract a b=bs ((l.take b).drop a):=by
 apply ByteArray.ext;rw[ByteArray.data_extract];simp[bs,List.drop_take]
theorem iQ (l:Bs) (i:Nat) (h:i<(bs l).size):(bs l)[i]=l[i]'(by rw[ag] at h;exact h):=rfl
structure aa (L:List Nat) (w w':World):Prop where
 os:w'.os=w.os
 output:w'.output=w.output
 size:w.heap.size≤w'.heap.size
 block:∀ k,k<w.heap.size→k∉L→w'.heap[k]? = w.heap[k]?
section
variable {L L':List Nat} {a w w' w'':World}
theorem aa.refl (L:List Nat) (w:World):aa L w w:=⟨rfl,rfl,Fy _,fun _ _ _=>rfl⟩
theorem aa.trans' (h:aa L w w') (k:aa L' w' w'') (J:∀ x∈L',x<w.heap.size→x∈L):aa L w w'' :=
 ⟨k.os.trans h.os,k.output.trans h.output,FD h.size k.size,fun i D I =>
  (k.block i (Nat.lt_of_lt_of_le D h.size) (fun M=>I (J i M D))).trans (h.block i D I)⟩
theorem aa.trans (h:aa L w w') (k:aa L w' w''):aa L w w'':=h.trans' k fun _ D _=>D
theorem aa.weaken (h:aa L w w') (I:∀ x∈L,x<w.heap.size→x∈L'):aa L' w w' :=
 ⟨h.os,h.output,h.size,fun k D J=>h.block k D fun M=>J (I k M D)⟩
theorem aa.of_nil (h:aa [] w w'):aa L w w':=h.weaken (by simp)
theorem aa.drew (h:aa L a w):aa L a w.drew:=⟨h.os,h.output,h.size,h.block⟩
theorem aa.drewN (h:aa L a w) (n:Nat):aa L a (w.drewN n):=⟨h.os,h.output,h.size,h.block⟩
theorem aa.alloc (h:aa L a w) (o:Obj):aa L a (w.alloc o) :=
 ⟨h.os,h.output,FD h.size (by simp),fun k D I=>(Below.heap_alloc w o k (Nat.lt_of_lt_of_le D h.size)).trans (h.block k D I)⟩
theorem aa.setCell (h:aa L a w) {p:Addr} (D:p.block∈L∨a.heap.size≤p.block) (u:Value):aa L a (w.setCell p u) :=
 ⟨h.os,h.output,by simpa[World.setCell] using h.size,fun k J I=>(Below.heap_setCell w p u k (by
  rintro rfl;rcases D with D|D
  ·exact I D
  omega)).trans (h.block k J I)⟩
theorem aa.grown (h:aa L a w) {D:Option Nat} (I:w.grownBy w' D) (O:∀ g,D=some g→g∈L∨a.heap.size≤g):aa L a w' :=
 ⟨I.os.trans h.os,I.output.trans h.output,FD h.size I.size,fun k J M =>
  (I.block k (Nat.lt_of_lt_of_le J h.size) (by
   intro U;rcases O k U.symm with N|N
   ·exact M N
   omega)).trans (h.block k J M)⟩
theorem aa.frame (h:aa [] w w') (D:MemPlace→Prop):w.keptBut w' D:=by
 refine ⟨h.os,h.output,fun i I=>?_⟩;rw[h.block i I (by simp)];split<;>simp_all
theorem aa.same (h:aa [] w w') {p:MemPlace} (D:p.block<w.heap.size):w.sameAt w' p:=by
 cases p with
 | cell b o=>exact World.cell?_of_block (w:=w) (h.block b D (by simp))
 | map b=>exact h.block b D (by simp)
theorem aa.of_below (h:Below w.heap.size w w'):aa L w w':=⟨h.os,h.output,h.size,fun k D _=>h.block k D⟩
theorem aa.cell (h:aa L w w') {p:Addr} (I:p.block<w.heap.size) (D:p.block∉L):w'.cell? p=w.cell? p :=
 World.cell?_of_block (h.block p.block I D)
theorem aa.frozen (h:aa L w w') {p:Addr} (I:p.block<w.heap.size) (D:p.block∉L):w'.frozen? p=w.frozen? p :=
 World.frozen?_of_block (h.block p.block I D)
theorem aa.cell_of (h:aa L w w') {p:Addr} {v:Value} (D:w.cell? p=some v) (I:p.block∉L):w'.cell? p=some v :=
 (h.cell (FC w p D) I).trans D
end
def ao (w:World) (g:Nat) (t:TypeId) (cs:Array Value):Prop:=w.heap[g]? = some (FQ cs t (0,0))
section
variable {w w':World} {g:Nat} {t:TypeId} {cs:Array Value}
theorem ao.lt (h:ao w g t cs):g<w.heap.size:=by
 rcases Nat.lt_or_ge g w.heap.size with I|D
 ·exact I
 unfold ao at h;rw[Array.getElem?_eq_none D] at h;cases h
theorem ao.cell (h:ao w g t cs) (i:Nat):w.cell? ⟨g,i,none⟩=cs[i]?:=cell_of_row w g i cs t (0,0) h
theorem ao.frozen (h:ao w g t cs) (i:Nat):w.frozen? ⟨g,i,none⟩=false:=by
 unfold ao at h;simp[World.frozen?,h]
theorem ao.new (w:World) (t:TypeId) (cs:Array Value):ao (w.alloc (FQ cs t)) w.heap.size t cs:=heap_alloc_new w _
theorem ao.drew (h:ao w g t cs):ao w.drew g t cs:=h
theorem ao.drewN (h:ao w g t cs) (n:Nat):ao (w.drewN n) g t cs:=h
theorem ao.alloc (h:ao w g t cs) (o:Obj):ao (w.alloc o) g t cs:=(Below.heap_alloc w o g h.lt).trans h
theorem ao.set (h:ao w g t cs) (i:Nat) (u:Value):ao (w.setCell ⟨g,i,none⟩ u) g t (cs.setIfInBounds i u):=by
 unfold ao at h ⊢;simp[World.setCell,Array.getElem?_modify,h]
theorem ao.far (h:ao w g t cs) {p:Addr} (D:g≠p.block) (u:Value):ao (w.setCell p u) g t cs:=(Below.heap_setCell w p u g D).trans h
theorem ao.keep {L:List Nat} (h:ao w g t cs) (D:aa L w w') (I:g∉L):ao w' g t cs:=(D.block g h.lt I).trans h
theorem ao.ne {I:Nat} {t':TypeId} {cs':Array Value} (h:ao w g t cs) (h':ao w I t' cs') (D:t≠t'):g≠I:=by
 rintro rfl;unfold ao at h h';rw[h] at h';injection h' with h';injection h' with _ J;exact D J
theorem ao.congr {cs':Array Value} (h:ao w g t cs) (D:cs=cs'):ao w g t cs':=D ▸ h
end
theorem cZ (a:Addr) (n:Nat):(a.add n).block=a.block:=by unfold Addr.add;split<;>rfl
theorem add_add (a:Addr) (i j:Nat):(a.add i).add j=a.add (i+j):=by
 unfold Addr.add;by_cases D:i=0<;>by_cases h:j=0<;>simp[D,h,Nat.add_assoc]
theorem cJ (b o j:Nat):(⟨b,o,none⟩:Addr).add j=⟨b,o+j,none⟩:=by
 unfold Addr.add;split
 ·rename_i h;subst h;rfl
 rfl
def Rd (w:World) (L:List Nat) (size:Nat) (A:Option Addr) (n:Nat) (xs:List Value):Prop :=
 xs.length=n*size∧(0<n→∃ h,A=some h∧h.block∉L∧h.block<w.heap.size∧∀ j u,xs[j]? = some u→w.cell? (h.add j)=some u)
section
variable {w w':World} {L L':List Nat} {size n:Nat} {A:Option Addr} {xs:List Value}
theorem Rd.nil:Rd w L size A 0 []:=⟨by simp,fun h=>absurd h (by omega)⟩
theorem Rd.keep (h:Rd w L size A n xs) (D:aa L w w'):Rd w' L size A n xs :=
 ⟨h.1,fun N=>by
  obtain ⟨M,e,I,J,U⟩:=h.2 N;exact ⟨M,e,I,Nat.lt_of_lt_of_le J D.size,fun j u O=>(D.cell (by rw[cZ];exact J) (by rw[cZ];exact I)).trans (U j u O)⟩⟩
theorem Rd.move (h:Rd w L size A n xs) (I:∀ x∈L',x<w.heap.size→x∈L):Rd w L' size A n xs :=
 ⟨h.1,fun M=>by
  obtain ⟨J,e,N,D,U⟩:=h.2 M;exact ⟨J,e,fun O=>N (I _ O D),D,U⟩⟩
theorem Rd.apart (h:Rd w L size A n xs) (D:aa L w w') (J:∀ x∈L',w.heap.size≤x):Rd w' L' size A n xs :=
 ⟨h.1,fun N=>by
  obtain ⟨M,e,O,I,hc⟩:=h.2 N;exact ⟨M,e,fun Z=>by have:=J _ Z;omega,Nat.lt_of_lt_of_le I D.size,fun j u U=>(D.cell (by rw[cZ];exact I) (by rw[cZ];exact O)).trans (hc j u U)⟩⟩
theorem Rd.open' (h:Rd w L size A n xs) (I:0<n) (M:0<size):∃ b o,A=some ⟨b,o,none⟩∧b∉L∧b<w.heap.size∧∀ j u,xs[j]? = some u→w.cell? ⟨b,o+j,none⟩=some u:=by
 obtain ⟨⟨b,o,O⟩,e,U,hl,J⟩:=h.2 I;have N:0<xs.length:=by rw[h.1];exact Nat.mul_pos I M
 have D:=World.cell?_spot (J 0 _ (FA N));have hsp':O=none:=by simpa[Addr.add] using D
 subst hsp';refine ⟨b,o,e,U,hl,fun j u Z=>?_⟩;rw[←cJ];exact J j u Z
theorem Rd.of_own {base:Nat} {e:TypeId} {c:Nat} (h:w.ownsRow base e size (FN A n c) n xs) (I:∀ g,(Value.slice A n c).ownBlock=some g→g∉L):Rd w L size A n xs:=by
 refine ⟨h.1,fun M=>?_⟩;obtain ⟨g,cap,J,_,D⟩:=h.form M;have N:A=some ⟨g,0,none⟩:=by injection J
 subst N;exact ⟨_,rfl,I g rfl,D,h.cells (g:=g) rfl⟩
end
theorem ar {w:World} {base:Nat} {e:TypeId} {size n:Nat} {v:Value} {xs:List Value} (h:w.ownsRow base e size v n xs) :
  ∃ A c,v=FN A n c∧(0<n→∃ g,A=some ⟨g,0,none⟩∧g<w.heap.size∧∀ j u,xs[j]? = some u→w.cell? ⟨g,j,none⟩=some u):=by
 rcases h.2 with ⟨rfl,rfl⟩|⟨g,cap,cur,rfl,J,I,r⟩
 ·exact ⟨none,0,rfl,fun h=>absurd h (by omega)⟩
 refine ⟨_,cap,rfl,fun _=>⟨g,rfl,(Array.getElem?_eq_some_iff.1 I).1,fun j u D=>?_⟩⟩;have:=h.cells (g:=g) rfl j u D;rwa [cJ,Nat.zero_add] at this
section
variable {w w':World} {p:Addr} {v:Value}
theorem aD (h:w.cell? p=some v∧w.frozen? p=false) (o:Obj):(w.alloc o).cell? p=some v∧(w.alloc o).frozen? p=false:=by
 have D:=FC w p h.1;exact ⟨(World.cell?_alloc_lt w o p D).trans h.1,(World.frozen?_alloc_old w o p (Nat.ne_of_lt D)).trans h.2⟩
theorem aI {L:List Nat} (D:aa L w w') (h:w.cell? p=some v∧w.frozen? p=false) (I:p.block∉L):w'.cell? p=some v∧w'.frozen? p=false :=
 ⟨D.cell_of h.1 I,(D.frozen (FC w p h.1) I).trans h.2⟩
theorem aE {D:Option Nat} (J:w.grownBy w' D) (h:w.cell? p=some v∧w.frozen? p=false) (I:D≠some p.block):w'.cell? p=some v∧w'.frozen? p=false :=
 ⟨(J.cell_far p (FC w p h.1) (Ne.symm I)).trans h.1,(J.frozen_far p (FC w p h.1) (Ne.symm I)).trans h.2⟩
end
theorem aC {w w':World} {L:List Nat} {base:Nat} {e:TypeId} {size:Nat} {v:Value} {n:Nat} {xs:List Value} (h:w.ownsRow base e size v n xs) (I:aa L w w') (N:∀ g,v.ownBlock=some g→g∉L):w'.ownsRow base e size v n xs:=by
 refine ⟨h.1,?_⟩;rcases h.2 with J|⟨g,cap,cur,rfl,M,D,r⟩
 ·exact .inl J
 exact .inr ⟨g,cap,cur,rfl,M,by rw[I.block g (Array.getElem?_eq_some_iff.1 D).1 (N g rfl)];exact D,r⟩
end
section
open Go.RowKit Go.ChangeShapes Go.WideShapes
theorem Fr.own:ownKnob Tryz.prog.godebug=none:=by kernel_rfl
theorem Fr.laidOut:laidOutB Tryz.prog=true:=by kernel_rfl
section
variable {P:Program} {H:Type} {enc:TypeId×Value→H} {W:World} {r:Reach} {base:Nat} {t e:TypeId} {v:Value} {d:DataW H} {p:List MemPlace}
theorem aa.trod {W':World} (O:laidOutB P=true) (M:P.readableRec t=true) (I:t<P.types.size)
  (h:DataW.Trod enc P W 0 (fun _=>true) true t v d p) (N:aa [] W W') (D:∀ x∈p,x.block<W.heap.size) :
  DataW.Trod enc P W' 0 (fun b=>decide (b<W.heap.size)) true t v d p :=
 WideElems.Trod_stays O M I h (fun x J=>N.same (D x J)) (fun x J=>by simpa using D x J)
end
end
section
structure Vl where
 kind:Int
 num:Int
 word:Bs
deriving DecidableEq
structure Cl where
 name:Bs
 kind:Int
deriving DecidableEq
structure Tb where
 cols:List Cl
 rows:List (List Vl)
deriving DecidableEq
def il:Bs:=[97,98,99,100,101,102,103,104,105,106,107,108,109,110,111,112,113,114,115,116,117,118,119,120,121,122]
def dp:Bs:=il++[48,49,50,51,52,53,54,55,56,57]
def eC (s:Bs):Bool:=!s.isEmpty&&decide (s.length≤10)&&il.contains (s.getD 0 0)&&s.all (dp.contains ·)
def iN (b:UInt8):Bool:=decide (b.toNat<32)||decide (126<b.toNat)||decide (b.toNat=39)
def eS (v:Vl):Bool :=
 if v.kind=1 then (v.word==[])&&decide (-1000000000≤v.num)&&decide (v.num≤1000000000)
 else if v.kind=2 then decide (v.num=0)&&decide (v.word.length≤16) && !v.word.any iN
 else false
def cL (a b:Vl):Bool:=if a.kind=b.kind then (if a.kind=1 then decide (a.num<b.num) else Op.bytesLess a.word b.word) else decide (a.kind<b.kind)
def fY (l:List Cl) (i:Nat):Bool:=match l[i]? with
 | some c=>eC c.name&&(decide (c.kind=1)||decide (c.kind=2)) && !((l.take i).any fun d=>d.name==c.name)
 | none=>true
def cp (l:List Cl):Bool:=decide (1≤l.length)&&decide (l.length≤6)&&(List.range l.length).all (fY l)
def ke (cs:List Cl) (r:List Vl) (i:Nat):Bool:=match r[i]?,cs[i]? with
 | some v,some c=>decide (v.kind=c.kind)&&eS v
 | _,_=>true
def fv (cs:List Cl) (r:List Vl):Bool:=decide (r.length=cs.length)&&(List.range r.length).all (ke cs r)
def ak (t:Tb):Bool:=cp t.cols&&decide (t.rows.length≤60)&&t.rows.all (fv t.cols)
def eT (j:Nat):Bs:=match j with|1=>[105,110,116]|2=>[116,101,120,116]|_=>[]
def bd (v:Vl):Bs:=if v.kind=1 then Lib.itoa v.num else [39]++v.word++[39]
def ea (n:Int):Prop:= -9223372036854775808≤n∧n≤9223372036854775807
def nu (l:List Cl):Nat→Bs
 | 0=>[]
 | k+1=>nu l k++(if k=0 then [] else [32])++(match l[k]? with|some c=>c.name++[58]++eT c.kind.toNat|none=>[])
def uj (r:List Vl):Nat→Bs
 | 0=>[]
 | k+1=>uj r k++(if k=0 then [] else [32])++(match r[k]? with|some v=>bd v|none=>[])
def pZ (h:List (List Vl)):Nat→Bs
 | 0=>[]
 | k+1=>pZ h k++(match h[k]? with|some r=>uj r r.length++[10]|none=>[])
def im (t:Tb):Bs:=nu t.cols t.cols.length++[10]++pZ t.rows t.rows.length
def EZ (k:Bs):Nat:=if k=[105,110,116] then 1 else if k=[116,101,120,116] then 2 else 0
def ax (c:UInt8):Bs→List Bs
 | []=>[[]]
 | b::l=>if b=c then []::ax c l else match ax c l with
  | h::t=>(b::h)::t
  | []=>[[b]]
def fT (c:UInt8):Bs→Bs×Bs
 | []=>([],[])
 | b::l=>if b=c then ([],l) else (b::(fT c l).1,(fT c l).2)
def ei (s:Bs):Nat→List Bs×Nat×Bool
 | 0=>([],0,false)
 | k+1 =>
  let r:=ei s k
  if s.getD k 0=39 then (r.1,r.2.1,!r.2.2)
  else if s.getD k 0=32 && !r.2.2 then (r.1++[(s.take k).drop r.2.1],k+1,r.2.2)
  else r
def fU (s:Bs):List Bs:=(ei s s.length).1++[s.drop (ei s s.length).2.1]
def eG (s:Bs):Bool:=decide (2≤s.length)&&decide (s.getD 0 0=39)&&decide (s.getD (s.length-1) 0=39)
def EB (s:Bs):Option Vl :=
 if eG s then some ⟨2,0,(s.take (s.length-1)).drop 1⟩
 else match Lib.atoiAll s with
  | .ok n=>if Lib.itoa n=s then some ⟨1,n,[]⟩ else none
  | _=>none
def pI (s:Bs):Option Vl:=match EB s with
 | some v=>if eS v then some v else none
 | none=>none
inductive PR
 | ok (t:Tb)
 | bad (e:Int) (at_:Nat)
def zy (u:Bs):Cl:=⟨(fT 58 u).1,EZ (fT 58 u).2⟩
def kM:List Bs→List Vl→Option (List Vl)
 | [],a=>some a
 | p::ps,a=>match pI p with
  | none=>none
  | some v=>kM ps (a++[v])
def mR (cols:List Cl) (r:List Vl):Bool:=decide (r.length=cols.length)&&(r.zip cols).all fun p=>p.1.kind==p.2.kind
def mn (cols:List Cl) (l:Bs):Option (List Vl):=match kM (fU l) [] with
 | none=>none
 | some r=>if mR cols r then some r else none
def fh (cols:List Cl):List Bs→Nat→List (List Vl)→PR
 | [],i,_=> .bad 3 i
 | l::rest,i,acc=>if rest=[]∧l=[] then .ok ⟨cols,acc⟩ else match mn cols l with
  | none=> .bad 3 (i+1)
  | some r=>if acc.length=60 then .bad 4 (i+1) else fh cols rest (i+1) (acc++[r])
def bG (l:Bs):List Cl:=(ax 32 l).map zy
def dE (s:Bs):PR:=if cp (bG ((ax 10 s).headD [])) then fh (bG ((ax 10 s).headD [])) (ax 10 s).tail 0 [] else .bad 3 0
end
section
open Go.RowKit
def eH (v:Vl):List Value:=[FR FS v.kind,FR FS v.num,FM (bs v.word)]
def fi (c:Cl):List Value:=[FM (bs c.name),FR FS c.kind]
def fV (v:Vl):Value:= .agg #[FR FS v.kind,FR FS v.num,FM (bs v.word)]
def BM (c:Cl):Value:= .agg #[FM (bs c.name),FR FS c.kind]
def al (l:List Vl):List Value:=l.flatMap eH
def ai (l:List Cl):List Value:=l.flatMap fi
theorem fI (l:List Vl):(al l).length=l.length*3:=by
 induction l with
 | nil=>rfl
 | cons p l ih=>simp[al,eH] at ih ⊢;omega
theorem nv (l:List Cl):(ai l).length=l.length*2:=by
 induction l with
 | nil=>rfl
 | cons p l ih=>simp[ai,fi] at ih ⊢;omega
theorem iR (l m:List Vl):al (l++m)=al l++al m:=by simp[al]
theorem iS (l m:List Cl):ai (l++m)=ai l++ai m:=by simp[ai]
theorem ay (l:List Vl) (k:Nat) (h:k<l.length):(al l)[k*3]? = some (FR FS l[k].kind)∧(al l)[k*3+1]? = some (FR FS l[k].num)∧(al l)[k*3+2]? = some (FM (bs l[k].word)):=by
 induction l generalizing k with
 | nil=>simp at h
 | cons p l ih =>
  rcases k with _|k
  ·simp[al,eH]
  have:=ih k (by simpa using h);simpa[al,eH,Nat.succ_mul] using this
theorem aN (l:List Cl) (k:Nat) (h:k<l.length):(ai l)[k*2]? = some (FM (bs l[k].name))∧(ai l)[k*2+1]? = some (FR FS l[k].kind):=by
 induction l generalizing k with
 | nil=>simp at h
 | cons p l ih =>
  rcases k with _|k
  ·simp[ai,fi]
  have:=ih k (by simpa using h);simpa[ai,fi,Nat.succ_mul] using this
def fJ (w:World) (L:List Nat) (u:Value) (r:List Vl):Prop:=∃ A c,u=FN A r.length c∧r.length≤c∧Rd w L 3 A r.length (al r)
def cM (w:World) (L:List Nat) (A:Option Addr) (rs:List (List Vl)):Prop :=
 ∃ us:List Value,us.length=rs.length∧Rd w L 1 A rs.length us∧∀ i (h:i<us.length) (h':i<rs.length),fJ w L us[i] rs[i]
section
variable {w w':World} {L L':List Nat} {A:Option Addr} {rs:List (List Vl)} {u:Value} {r:List Vl}
theorem fJ.keep (h:fJ w L u r) (D:aa L w w'):fJ w' L u r:=by
 obtain ⟨A,c,e,I,h⟩:=h;exact ⟨A,c,e,I,h.keep D⟩
theorem cM.keep (h:cM w L A rs) (D:aa L w w'):cM w' L A rs:=by
 obtain ⟨us,J,M,I⟩:=h;exact ⟨us,J,M.keep D,fun i a b=>(I i a b).keep D⟩
end
end
section
open Go.RowKit Go.ChangeShapes Go.WideShapes Go.Joins
open Go.Deep (oneCellFields hone_of)
theorem wQ {n:Int} (h:(Lit.int .i64 n).wf=true):ea n:=by
 have D:IntKind.i64.min= -9223372036854775808:=by decide
 have I:IntKind.i64.max=9223372036854775807:=by decide
 have h':(decide (IntKind.i64.min≤n)&&decide (n≤IntKind.i64.max))=true:=h;rw[D,I,Bool.and_eq_true,decide_eq_true_eq,decide_eq_true_eq] at h';exact h'
theorem rZ {W:World} {α:Type} {size:Nat} (cells:α→List Value) (D:∀ x,(cells x).length=size):∀ (l:List α) (a:Addr),(∀ i (J:i<l.length) (r:Nat) (u:Value),(cells l[i])[r]? = some u→W.cell? (a.add (i*size+r))=some u)→∀ j u,(l.flatMap cells)[j]? = some u→W.cell? (a.add j)=some u
 | [],_,_,j,u,I=>by simp at I
 | x::l,a,h,j,u,I=>by
  rw[List.flatMap_cons] at I;by_cases N:j<size
  ·rw[List.getElem?_append_left (by rw[D];exact N)] at I
   have:=h 0 (by simp) j u I;rwa [Nat.zero_mul,Nat.zero_add] at this
  rw[List.getElem?_append_right (by rw[D];omega),D] at I;have:=rZ cells D l (a.add size) (fun i J r u M=>by
   have:=h (i+1) (by simpa using J) r u M;rw[add_add,show size+(i*size+r)=(i+1)*size+r by rw[Nat.succ_mul];omega];exact this) _ u I
  rw[add_add,show size+(j-size)=j by omega] at this;exact this
theorem vZ {W:World} {α:Type} {size:Nat} (I:0<size) (cells:α→List Value) (D:∀ x,(cells x).length=size) (l:List α) (a:Addr) (h:∀ i (N:i<l.length) (r:Nat) (u:Value),(cells l[i])[r]? = some u→W.cell? (a.add (i*size+r))=some u):Rd W [] size (some a) l.length (l.flatMap cells):=by
 refine ⟨?_,fun J=>⟨a,rfl,by simp,?_,rZ cells D l a h⟩⟩
 ·clear h
  induction l with
  | nil=>simp
  | cons x l ih=>rw[List.flatMap_cons,Fz,D,ih,FG,Nat.succ_mul];omega
 have M:0<(cells l[0]).length:=by rw[D];exact I
 have:=FC _ _ (h 0 J 0 _ (FA M));rwa [cZ] at this
section
variable {H:Type} {enc:TypeId×Value→H} {P:Program} {w:World} {base:Nat} {spare:Nat→Bool} {held:Bool}
theorem mr {t e:TypeId} {M:Array Field} {fuel:Nat} {cs:List Value} {x:DataW H×List MemPlace} (ht:P.underlying t=some (.slice e)) (he:P.underlying e=some (.struct M))
  (N:oneCellFields P M=true) (hC:P.cellsOf e=M.size) (h:DataW.trod enc P w base spare held fuel t cs=some x) :
  cs=[.slice none 0 0] ∨
  ∃ (a:Addr) (I cap:Nat),cs=[.slice (some a) I cap]∧I≤cap∧cap≤maxLen ∧
   ∀ i,i<I→∃ (n:Nat),∀ (j:Nat) (f:Field),M[j]? = some f→∃ (v:Value) (y:DataW H×List MemPlace),w.cell? (a.add (i*M.size+j))=some v∧DataW.trod enc P w base spare held n f.type [v]=some y:=by
 rcases Go.Deep.open_slice ht h with ⟨h0,_⟩|⟨a,I,cap,m,n,D,Pl,U,hb,hl,hm,av,hx,hi⟩
 ·exact .inl h0
 refine .inr ⟨a,I,cap,U,hl,hm,fun i a2=>?_⟩;obtain ⟨cs',hc,Z⟩:=hi i (by rw[av];split<;>omega);rw[hC] at hc;obtain ⟨ys,n',hn',hy,a1,a3,hf⟩:=DataW.trod_struct he Z;obtain ⟨_,a4,aA⟩:=World.cells?_some hc;refine ⟨n',fun j f O=>?_⟩;obtain ⟨ho,hk⟩:=hone_of N j f O;have a0:j<M.size:=(Array.getElem?_eq_some_iff.1 O).1;have J:=aA j a0;have hv:cs'[j]? = some (cs'[j]'(by omega)):=FA (by omega);have h1:=hf j f O;rw[ho,hk,List.drop_eq_getElem_cons (by omega)] at h1;have ad:ys[j]? = some (ys[j]'(by omega)):=FA (by omega);refine ⟨cs'[j]'(by omega),ys[j]'(by omega),?_,h1.trans ad⟩;rw[←Go.Deep.add_add,J,hv]
end
instance:Inhabited Cl:=⟨⟨[],0⟩⟩
instance:Inhabited Vl:=⟨⟨0,0,[]⟩⟩
section
variable {H:Type} {enc:TypeId×Value→H} {w:World} {base:Nat} {spare:Nat→Bool} {held:Bool} {fuel:Nat} {cs:List Value} {x:DataW H×List MemPlace}
theorem wR (h:DataW.trod enc Tryz.prog w base spare held fuel 51 cs=some x) :
  ∃ (A:Option Addr) (c:Nat) (l:List Cl),cs=[.slice A l.length c]∧l.length≤c∧c≤maxLen∧Rd w [] 2 A l.length (ai l)∧∀ c∈l,c.name.length≤maxLen:=by
 rcases mr Tryz.underlying51 Tryz.underlying64 (by kernel_rfl) (by kernel_rfl) h with rfl|⟨a,D,cap,rfl,hl,hm,N⟩
 ·exact ⟨none,0,[],rfl,Fy _,FF _,Rd.nil,by simp⟩
 have hx:∀ i,i<D→∃ c:Cl,w.cell? (a.add (i*2))=some (.string (bs c.name))∧w.cell? (a.add (i*2+1))=some (.int .i64 c.kind)∧c.name.length≤maxLen:=fun i J=>by
  obtain ⟨n,O⟩:=N i J;obtain ⟨v0,y0,av,ad⟩:=O 0 _ rfl;obtain ⟨v1,y1,U,aA⟩:=O 1 _ rfl;obtain ⟨s,e0,_,hs⟩:=DataW.trod_string Tryz.underlying9 ad;obtain ⟨k,Z,_,_⟩:=DataW.trod_int Tryz.underlying3 aA;injection e0 with e0;injection Z with Z;subst e0 Z;exact ⟨⟨s.data.toList,k⟩,av,U,hs⟩
 obtain ⟨f,O⟩:=Go.Deep.choose_lt hx;have M:((List.range D).map f).length=D:=by simp
 refine ⟨some a,cap,(List.range D).map f,by rw[M],by rw[M];exact hl,hm,vZ (by decide) fi (fun _=>rfl) _ a (fun i N r u I=>?_),fun c hc=>?_⟩
 ·have J:i<D:=by rw[M] at N;exact N
  rw[List.getElem_map,List.getElem_range] at I;obtain ⟨h1,h2,_⟩:=O i J;rcases r with _|_|r
  ·injection I with I;rw[←I];exact h1
  ·injection I with I;rw[←I];exact h2
  simp[fi] at I
 obtain ⟨i,N,rfl⟩:=List.mem_map.1 hc;exact (O i (List.mem_range.1 N)).2.2
theorem wS (h:DataW.trod enc Tryz.prog w base spare held fuel 89 cs=some x) :
  ∃ (A:Option Addr) (c:Nat) (l:List Vl),cs=[.slice A l.length c]∧l.length≤c∧c≤maxLen∧Rd w [] 3 A l.length (al l)∧∀ v∈l,v.word.length≤maxLen∧ea v.num:=by
 rcases mr Tryz.underlying89 Tryz.underlying46 (by kernel_rfl) (by kernel_rfl) h with rfl|⟨a,I,cap,rfl,hl,hm,O⟩
 ·exact ⟨none,0,[],rfl,Fy _,FF _,Rd.nil,by simp⟩
 have hx:∀ i,i<I→∃ c:Vl,w.cell? (a.add (i*3))=some (.int .i64 c.kind)∧w.cell? (a.add (i*3+1))=some (.int .i64 c.num)∧w.cell? (a.add (i*3+2))=some (.string (bs c.word))∧c.word.length≤maxLen∧ea c.num:=fun i J=>by
  obtain ⟨n,N⟩:=O i J;obtain ⟨v0,y0,a0,av⟩:=N 0 _ rfl;obtain ⟨v1,y1,ad,a1⟩:=N 1 _ rfl;obtain ⟨v2,y2,aA,U⟩:=N 2 _ rfl;obtain ⟨k,e0,_,_⟩:=DataW.trod_int Tryz.underlying3 av;obtain ⟨m,e1,_,hm⟩:=DataW.trod_int Tryz.underlying3 a1;obtain ⟨s,Z,_,hs⟩:=DataW.trod_string Tryz.underlying9 U;injection e0 with e0;injection e1 with e1;injection Z with Z;subst e0 e1 Z;exact ⟨⟨k,m,s.data.toList⟩,a0,ad,aA,hs,wQ hm⟩
 obtain ⟨f,N⟩:=Go.Deep.choose_lt hx;have M:((List.range I).map f).length=I:=by simp
 refine ⟨some a,cap,(List.range I).map f,by rw[M],by rw[M];exact hl,hm,vZ (by decide) eH (fun _=>rfl) _ a (fun i O r u D=>?_),fun c hc=>?_⟩
 ·have J:i<I:=by rw[M] at O;exact O
  rw[List.getElem_map,List.getElem_range] at D;obtain ⟨h1,h2,h3,_⟩:=N i J;rcases r with _|_|_|r
  ·injection D with D;rw[←D];exact h1
  ·injection D with D;rw[←D];exact h2
  ·injection D with D;rw[←D];exact h3
  simp[eH] at D
 obtain ⟨i,O,rfl⟩:=List.mem_map.1 hc;exact (N i (List.mem_range.1 O)).2.2.2
theorem wT (h:DataW.trod enc Tryz.prog w base spare held fuel 52 cs=some x) :
  ∃ (A:Option Addr) (c:Nat) (l:List (List Vl)),cs=[.slice A l.length c]∧l.length≤c∧c≤maxLen∧cM w [] A l∧∀ r∈l,r.length≤maxLen∧∀ v∈r,v.word.length≤maxLen∧ea v.num:=by
 rcases Go.Deep.open_slice1 Tryz.underlying52 (by kernel_rfl) h with ⟨rfl,_⟩|⟨a,J,cap,m,n,V,D,Pl,rfl,_,hl,U,M,_,I⟩
 ·exact ⟨none,0,[],rfl,Fy _,FF _,⟨[],rfl,Rd.nil,fun i h=>absurd h (by simp)⟩,by simp⟩
 have hx:∀ i,i<J→∃ r:List Vl,fJ w [] (V i) r∧r.length≤maxLen∧∀ v∈r,v.word.length≤maxLen∧ea v.num:=fun i O=>by
  obtain ⟨A,c,l,e,h1,h2,h3,h4⟩:=wS (I i (by rw[M];split<;>omega)).2;injection e with e;exact ⟨l,⟨A,c,e,h1,h3⟩,by omega,h4⟩
 obtain ⟨f,hf⟩:=Go.Deep.choose_lt hx;have N:((List.range J).map f).length=J:=by simp
 refine ⟨some a,cap,(List.range J).map f,by rw[N],by rw[N];exact hl,U,⟨(List.range J).map V,by simp,?_,fun i h h'=>?_⟩,fun r hr=>?_⟩
 ·rw[N]
  refine ⟨by simp,fun h0=>⟨a,rfl,by simp,?_,fun j u Z=>?_⟩⟩
  ·have:=FC _ _ (I 0 (by rw[M];split<;>omega)).1
   rwa [cZ] at this
  rw[List.getElem?_map,Option.map_eq_some_iff] at Z;obtain ⟨i,O,rfl⟩:=Z;have hj:j<J:=by
   have:=(List.getElem?_eq_some_iff.1 O).1;simpa using this
  rw[List.getElem?_range hj] at O;obtain rfl:=Option.some.inj O;exact (I j (by rw[M];split<;>omega)).1
 ·rw[List.getElem_map,List.getElem_map,List.getElem_range]
  exact (hf i (by simpa using h)).1
 obtain ⟨i,O,rfl⟩:=List.mem_map.1 hr;exact (hf i (List.mem_range.1 O)).2
end
section
variable {H:Type} {enc:TypeId×Value→H} {w:World} {base b0:Nat} {spare:Nat→Bool} {held:Bool} {v:Value} {d:DataW H} {p:List MemPlace} {r:Reach}
end
end
section
def bh {α:Type} (p:α→Bool) (l:List α):Int:=match l.findIdx? p with|some i=>(i:Int)|none=> -1
theorem dX {α:Type} {p:α→Bool} {l:List α} {k:Nat} (h:k<l.length) (I:∀ j (D:j<k),p (l[j]'(by omega))=false) (J:p l[k]=true):bh p l=(k:Int):=by
 unfold bh;have:l.findIdx? p=some k:=by
  rw[List.findIdx?_eq_some_iff_getElem];exact ⟨h,J,fun j D=>by simpa using I j D⟩
 rw[this]
theorem dF {α:Type} {p:α→Bool} {l:List α} (D:∀ j (h:j<l.length),p l[j]=false):bh p l= -1:=by
 unfold bh;have:l.findIdx? p=none:=by
  rw[List.findIdx?_eq_none_iff];intro x I;obtain ⟨j,h,rfl⟩:=List.getElem_of_mem I;exact D j h
 rw[this]
theorem dY {α:Type} (p:α→Bool) (l:List α):decide (0≤bh p l)=l.any p:=by
 unfold bh
 cases h:l.findIdx? p with
 | none =>
  rw[List.findIdx?_eq_none_iff] at h;simp;intro x D;simpa using h x D
 | some i =>
  rw[List.findIdx?_eq_some_iff_getElem] at h;obtain ⟨J,I,_⟩:=h;simp;exact ⟨_,FE J,I⟩
end
section
open Go.RowKit
attribute [local go_sem] ag ab ae af
theorem wa (k:Bs):(bs k).data.toList=k:=rfl
theorem pJ (l:Bs) (c:UInt8):decide (0≤Lib.indexByte l c)=l.contains c:=by
 induction l with
 | nil=>rfl
 | cons b l ih =>
  have J:=Lib.indexByte_ge l c;unfold Lib.indexByte;rw[List.contains_cons];by_cases h:b=c
  ·subst h;simp
  have I:(b==c)=false:=beq_eq_false_iff_ne.2 h;have M:(c==b)=false:=beq_eq_false_iff_ne.2 (Ne.symm h);rw[I,M,Bool.false_or,←ih];simp only[Bool.false_eq_true,if_false];by_cases D:Lib.indexByte l c= -1
  ·rw[D];rfl
  have:(Lib.indexByte l c== -1)=false:=beq_eq_false_iff_ne.2 D;rw[this,decide_eq_decide];simp only[Bool.false_eq_true,if_false];omega
theorem pK {p:UInt8→Bool} (l:Bs):(l.dropWhile p)=[]↔∀ x∈l,p x=true:=by
 induction l with
 | nil=>simp
 | cons a l ih =>
  rw[List.dropWhile_cons];by_cases h:p a=true
  ·rw[if_pos h,ih];simp[h]
  rw[if_neg h];simp[h]
theorem pL {p:UInt8→Bool} (l:Bs) (x:UInt8) (D:x∈l) (I:p x=false):x∈l.dropWhile p:=by
 induction l with
 | nil=>cases D
 | cons a l ih =>
  rw[List.dropWhile_cons];by_cases h:p a=true
  ·rw[if_pos h]
   rcases List.mem_cons.1 D with rfl|D
   ·rw[I] at h;cases h
   exact ih D
  rw[if_neg h];exact D
theorem wU (l cs:Bs):(Lib.trimS l cs).isEmpty=l.all (cs.contains ·):=by
 rw[Bool.eq_iff_iff,List.isEmpty_iff,List.all_eq_true];unfold Lib.trimS Lib.trimLeftS Lib.trimRightS;rw[pK];constructor
 ·intro h x D
  cases M:cs.contains x with
  | true=>rfl
  | false =>
   have I:=pL (p:=(cs.contains ·)) l.reverse x (by simpa using D) M;have J:=h x (by simpa using I);rw[M] at J;cases J
 intro h x D;have I:x∈l.reverse.dropWhile (cs.contains ·):=by simpa using D
 exact h x (by simpa using (List.dropWhile_sublist _).subset I)
theorem sa (s:Bs) (hs:s.length≤1000000000) (w:World) :
  Calls Tryz.prog 29 #[FM (bs s)] w fun e w'=>e=FP (.bool (eC s))∧aa [] w w':=by
 obtain ⟨R,h⟩:∃ R,eC s=R:=⟨_,rfl⟩
 rw[h];rcases s with _|⟨c,t⟩
 ·have HR:=Fx h
  clear h;go_enter Tryz.func29,Tryz.ntmps29
  go_wp2;go_ret;exact ⟨by rw[←HR.out];rfl,aa.refl _ _⟩
 have N:∀ W,Calls Tryz.prog 67 #[FM (bs il),.int .u8 (((bs (c::t))[0]'(by rw[ag];simp)).toNat:Int)] W fun e w'=>e=FP (FR FS (Lib.indexByte il c))∧W=w':=fun W=>by
  refine (Tryz.strings_IndexByte (bs il) (((bs (c::t))[0]'(by rw[ag];simp)).toNat:Int) W).mono ?_;rintro e w' ⟨rfl,rfl⟩;refine ⟨?_,rfl⟩;have e0:((bs (c::t))[0]'(by rw[ag];simp))=c:=rfl;rw[e0,Int.toNat_natCast];have U:c.toNat.toUInt8=c:=by simp
  rw[U];rfl
 have I:=pJ il c;generalize Lib.indexByte il c=q at N I;have D:=fun (W:World)=>Any.strings_Trim_laid Tryz.lays160 (by kernel_rfl) (bs (c::t)) (bs dp) W (by rw[ag];omega) (by decide) (ascii_of_all (by decide))
 have M:=wU (c::t) dp;rw[wa,wa] at D;generalize Lib.trimS (c::t) dp=u at D M;have Z:=Fx N;have HT:=Fx D;have J:Hid (R=(decide ((c::t).length≤10)&&decide (0≤q)&&u.isEmpty)):=Fx (h.symm.trans (by unfold eC;rw[I,M];rfl));clear N D M I h;go_enter Tryz.func29,Tryz.ntmps29
 go_wp2_with (first|(go_at_call 67;refine (Z.out _).mono ?_;rintro e w5 ⟨rfl,rfl⟩)|(go_at_call 68;refine (HT.out _).mono ?_;rintro e w6 ⟨rfl,O⟩))
 all_goals go_ret
 all_goals refine ⟨?_,by first|exact aa.of_below O|exact aa.refl _ _⟩
 all_goals rw[J.out]
 all_goals refine congrArg (fun b=>Ending.returned (.bool b)) (?_:_=_)
 all_goals first|rfl|(simp_all;done)|(simp_all;omega)|(simp_all;intros;omega)
def wV (r:Nat):Bool:=decide (r<32)||decide (126<r)||decide (r=39)
theorem uk (s:ByteArray) (pos:Nat) (h:128≤(s.get! (pos+0)).toNat):128≤(Utf8.decode s pos).1:=by
 unfold Utf8.decode;simp only[Utf8.runeError,ge_iff_le];split
 ·omega
 repeat' split
 all_goals simp only[Bool.and_eq_true,decide_eq_true_eq] at *
 all_goals omega
theorem iT (r:Nat) (D:r<2147483648) (w:World) :
    Calls Tryz.prog 66 #[.int .i32 (r:Int)] w fun e w'=>e=FP (.bool (wV r))∧w=w':=by
  have J:decide ((r:Int)<32)=decide (r<32):=by rw[decide_eq_decide];omega
  have M:decide ((126:Int)<(r:Int))=decide (126<r):=by rw[decide_eq_decide];omega
  have I:((r:Int)==39)=decide (r=39):=by rw[Bool.eq_iff_iff];simp;omega
  have h:Hid (wV r=(decide (r<32)||decide (126<r)||decide (r=39))):=rfl;go_enter Tryz.func66,Tryz.ntmps66
  go_wp2
  all_goals go_ret
  all_goals refine ⟨?_,rfl⟩
  all_goals rw[h.out]
  all_goals first
    | rfl
    | (show Ending.returned (.bool true)=FP (.bool _)
       congr 2
       simp_all)
theorem E7 (s:Bs) (pos:Nat) (h:pos<s.length):(bs s).get! (pos+0)=s[pos]:=by
 rw[Nat.add_zero];show s.toArray[pos]! = _;rw[getElem!_pos s.toArray pos (by simpa using h)];simp
theorem qU {w:World} {k j:Nat} (s:ByteArray) (p:Nat) (h:j≠k):(w.iterAt k s p).heap[j]? = w.heap[j]?:=by
 unfold World.iterAt;simp[Ne.symm h]
theorem pM (s:Bs) (w:World) :
  Calls Tryz.prog 146 #[FM (bs s),.func (.func 66) #[] #[],.bool true] w fun e w'=>(∃ n:Int,e=FP (FR FS n)∧decide (0≤n)=s.any iN)∧aa [] w w':=by
 go_enter Tryz.func146,Tryz.ntmps146
 go_wp2;have aA:(w.iter (bs s) 0).heap[w.heap.size]? = some (.stringIter (bs s) 0):=World.iter_heap _ _ _;have a8:aa [] w (w.iter (bs s) 0):=(aa.refl [] w).alloc _;have a1:=Fx aA;have a6:=Fx a8;clear aA a8;go_loopw [11] (fun _ wr=>∃ pos:Nat,pos≤s.length∧Hid (∀ j (hj:j<pos) (hl:j<s.length),iN s[j]=false)∧wr.heap[w.heap.size]? = some (.stringIter (bs s) pos)∧aa [] w wr) (fun _ wr=>s.length-wr.iterPos w.heap.size)
 case atStart=>exact ⟨0,FF _,fun j hj=>absurd hj (by omega),a1.out,a6.out⟩
 clear a1 a6;obtain ⟨pos,bb,a4,N,U⟩:=hrel;have be:w.heap.size<wr.heap.size:=(Array.getElem?_eq_some_iff.1 N).1;by_cases hp:pos<s.length
 ·have hp':pos<(bs s).size:=by rw[ag];exact hp
  have a7:∀ ty,(Instr.next (FO (some ⟨w.heap.size,0,none⟩)) true ty).run Tryz.prog wr=_:=fun ty=>Lib.run_next_any_at wr w.heap.size (bs s) pos ty N hp'
  have O:=Lib.iterAt_heap wr w.heap.size (bs s) pos (pos+(Utf8.decode (bs s) pos).2) N;have Z:aa [] w (wr.iterAt w.heap.size (bs s) (pos+(Utf8.decode (bs s) pos).2)):=U.trans' (L':=[w.heap.size]) ⟨rfl,rfl,by rw[Lib.iterAt_size];exact Fy _,fun k hk hn=>qU _ _ (by simpa using hn)⟩ (fun x hx hl=>by simp at hx;omega);have a3:=E7 s pos hp;have a0:(Utf8.decode (bs s) pos).1<2147483648:=by have:=decode_le (bs s) pos;omega
  have a5:wr.iterPos w.heap.size=pos:=iterPos_of N;have ba:=Fx a5;by_cases hA:(s[pos]).toNat<128
  ·have hd:Utf8.decode (bs s) pos=(s[pos].toNat,1):=decode_ascii (bs s) pos hp' (by rw[iQ];exact hA)
   rw[hd] at a7 O Z;have a2:=Fx O;have av:=Fx Z;generalize hb:s[pos]=b at *;have HB:=Fx hb;clear O Z hb hd a3 a0 N U a5
   cases D:iN b with
   | true =>
    have hr:wV b.toNat=true:=D;have J:=fun W=>iT b.toNat (by omega) W
    rw[hr] at J;have ad:=Fx J;have I:s.any iN=true:=List.any_eq_true.2 ⟨s[pos],FE hp,by rw[HB.out];exact D⟩;have M:=Fx I;clear hr J D I;go_wp2_with (go_at_call 66;refine (ad.out _).mono ?_;rintro e w5 ⟨rfl,rfl⟩)
    go_ret;exact ⟨⟨(pos:Int),rfl,by rw[M.out];simp⟩,av.out⟩
   | false =>
    have hr:wV b.toNat=false:=D;have J:=fun W=>iT b.toNat (by omega) W
    rw[hr] at J;have ad:=Fx J;have hno':Hid (∀ j (hj:j<pos+1) (hl:j<s.length),iN s[j]=false):=fun j hj hl=>by
     by_cases h:j<pos
     ·exact a4.out j h hl
     obtain rfl:j=pos:=by omega
     exact (congrArg iN HB.out).trans D
    clear hr J D a4;go_wp2_with (go_at_call 66;refine (ad.out _).mono ?_;rintro e w5 ⟨rfl,rfl⟩)
    go_roundw
    case rel=>exact ⟨pos+1,by omega,hno',a2.out,av.out⟩
    case measure=>rw[iterPos_of a2.out,ba.out];omega
  have bc:=uk (bs s) pos (by rw[a3];omega);have D:iN s[pos]=true:=by unfold iN;simp;omega
  have I:s.any iN=true:=List.any_eq_true.2 ⟨s[pos],FE hp,D⟩;generalize Utf8.decode (bs s) pos=dd at *;have hr:wV dd.1=true:=by unfold wV;simp;omega
  have J:=fun W=>iT dd.1 a0 W
  rw[hr] at J;have ad:=Fx J;have M:=Fx I;have av:=Fx Z;clear hr J D I Z O a3 a5 N U;go_wp2_with (go_at_call 66;refine (ad.out _).mono ?_;rintro e w5 ⟨rfl,rfl⟩)
  go_ret;exact ⟨⟨(pos:Int),rfl,by rw[M.out];simp⟩,av.out⟩
 have a7:∀ ty,(Instr.next (FO (some ⟨w.heap.size,0,none⟩)) true ty).run Tryz.prog wr=_:=fun ty=>Lib.run_next_end_at wr w.heap.size (bs s) pos ty N (by rw[ag];exact hp)
 have I:s.any iN=false:=by
  rw[List.any_eq_false];intro x hx;obtain ⟨j,hj,rfl⟩:=List.getElem_of_mem hx;rw[a4.out j (by omega) hj];decide
 have M:=Fx I;have a9:=Fx U;clear I U N;go_wp2;go_ret;exact ⟨⟨-1,rfl,by rw[M.out];rfl⟩,a9.out⟩
theorem mS (s:Bs) (w:World) :
  Calls Tryz.prog 65 #[FM (bs s),.func (.func 66) #[] #[]] w fun e w'=>e=FP (.bool (s.any iN))∧aa [] w w':=by
 have N:=Fx (pM s);have J:Calls Tryz.prog 105 #[FM (bs s),.func (.func 66) #[] #[]] w fun e w'=>(∃ n:Int,e=FP (FR FS n)∧decide (0≤n)=s.any iN)∧aa [] w w':=by
  go_enter Tryz.func105,Tryz.ntmps105
  go_wp2_with (go_at_call 146;refine (N.out _).mono ?_;rintro e M ⟨⟨n,rfl,h⟩,D⟩)
  have I:=Fx h;clear h;go_ret;exact ⟨⟨n,rfl,I.out⟩,D⟩
 have O:=Fx J;clear J;go_enter Tryz.func65,Tryz.ntmps65
 go_wp2_with fail
 refine O.out.mono ?_;rintro e M ⟨⟨n,rfl,h⟩,D⟩;have I:=Fx h;clear h;go_wp2;go_ret;exact ⟨by rw[←I.out];rfl,D⟩
theorem cB (v:Vl) (w:World) :
  Calls Tryz.prog 28 #[fV v] w fun e w'=>e=FP (.bool (eS v))∧aa [] w w':=by
 obtain ⟨k,n,s⟩:=v;show Calls _ _ #[.agg #[FR FS k,FR FS n,FM (bs s)]] w _;have U:=Fx (mS s);obtain ⟨R,D⟩:∃ R,eS ⟨k,n,s⟩=R:=⟨_,rfl⟩
 rw[D];by_cases h:k=1
 ·have N:(k==1)=true:=by rw[h];rfl
  have J:Hid (R=((s==[])&&decide (-1000000000≤n)&&decide (n≤1000000000))):=Fx (D.symm.trans (if_pos h));clear h D;go_enter Tryz.func28,Tryz.ntmps28
  go_wp2
  all_goals go_ret
  all_goals refine ⟨?_,(aa.refl _ _).alloc _⟩
  all_goals rw[J.out]
  all_goals refine congrArg (fun b=>Ending.returned (.bool b)) (?_:_=_)
  all_goals first|rfl|(simp_all;done)|(simp_all;omega)|(simp_all;intros;omega)|(simp_all;intros;exfalso;omega)
 have N:(k==1)=false:=by rw[beq_eq_false_iff_ne];exact h
 by_cases I:k=2
 ·have M:(k==2)=true:=by rw[I];rfl
  have J:Hid (R=(decide (n=0)&&decide (s.length≤16) && !s.any iN)):=Fx (D.symm.trans ((if_neg h).trans (if_pos I)));clear h I D;go_enter Tryz.func28,Tryz.ntmps28
  go_wp2_with (go_at_call 65;refine (U.out _).mono ?_;rintro e Z ⟨rfl,O⟩)
  all_goals go_ret
  all_goals refine ⟨?_,by first|exact (((aa.refl _ _).alloc _).trans O)|exact ((aa.refl _ _).alloc _)⟩
  all_goals rw[J.out]
  all_goals refine congrArg (fun b=>Ending.returned (.bool b)) (?_:_=_)
  all_goals first|rfl|(simp_all;done)|(simp_all;omega)|(simp_all;intros;omega)|(simp_all;intros;exfalso;omega)
 have M:(k==2)=false:=by rw[beq_eq_false_iff_ne];exact I
 have J:Hid (R=false):=Fx (D.symm.trans ((if_neg h).trans (if_neg I)));clear h I D;go_enter Tryz.func28,Tryz.ntmps28
 go_wp2;go_ret;exact ⟨by rw[J.out];rfl,(aa.refl _ _).alloc _⟩
def ej (p:Cl→Bool) (l:List Cl):Int:=match l.findIdx? p with|some i=>(i:Int)|none=> -1
theorem sc {p:Cl→Bool} {l:List Cl} {k:Nat} (h:k<l.length) (I:∀ j (D:j<k),p (l[j]'(by omega))=false) (J:p l[k]=true):ej p l=(k:Int):=by
 unfold ej;have:l.findIdx? p=some k:=by
  rw[List.findIdx?_eq_some_iff_getElem];exact ⟨h,J,fun j D=>by rw[I j D];simp⟩
 rw[this]
theorem qV {p:Cl→Bool} {l:List Cl} (D:∀ j (h:j<l.length),p l[j]=false):ej p l= -1:=by
 unfold ej;have:l.findIdx? p=none:=by
  rw[List.findIdx?_eq_none_iff];intro x I;obtain ⟨j,h,rfl⟩:=List.getElem_of_mem I;simp[D j h]
 rw[this]
theorem sd (p:Cl→Bool) (l:List Cl):decide (0≤ej p l)=l.any p:=by
 rw[Bool.eq_iff_iff,decide_eq_true_iff,List.any_eq_true];unfold ej
 cases h:l.findIdx? p with
 | none =>
  rw[List.findIdx?_eq_none_iff] at h;simp;intro x D;simpa using h x D
 | some i =>
  rw[List.findIdx?_eq_some_iff_getElem] at h;obtain ⟨J,I,_⟩:=h;simp;exact ⟨_,FE J,I⟩
def C4 (k:Nat) (cap:Array Value) (p:Cl→Bool) (l:List Cl) (w:World):Prop :=
 ∀ c∈l,∀ W,aa [] w W→Calls Tryz.prog k (#[BM c]++cap) W fun e W'=>e=FP (.bool (p c))∧aa [] W W'
theorem iU (k:Nat) (cap:Array Value) (he:∀ args w,(callFunc k args).run Tryz.prog w= .ok (.enter k args) w) (p:Cl→Bool) (l:List Cl) (A:Option Addr) (c:Nat) (w:World) (hR:Rd w [] 2 A l.length (ai l)) (Z:l.length≤4294967296) (hf:C4 k cap p l w) :
  Calls Tryz.prog 71 #[FN A l.length c,.func (.func k) #[] cap] w fun e w'=>e=FP (FR FS (ej p l))∧aa [] w w':=by
 have HR:=Fx hR;have HF:=Fx hf;clear hR hf;go_enter Tryz.func71,Tryz.ntmps71
 go_wp2;go_loopw [8] (fun i wr=>∃ n:Nat,n≤l.length∧i=FR FS n∧Hid (∀ j (J:j<n) (Z:j<l.length),p l[j]=false)∧aa [] w wr) (fun i _=>l.length-(intOf i).toNat)
 case atStart=>exact ⟨0,FF _,rfl,fun j J=>absurd J (by omega),aa.refl _ _⟩
 obtain ⟨n,hn,rfl,M,U⟩:=hrel;by_cases I:n<l.length
 ·obtain ⟨b,o,rfl,_,hb,hc⟩:=(HR.out.keep U).open' (by omega) (by omega)
  have d1:=hc (n*2) _ (aN l n I).1;have d2:=hc (n*2+1) _ (aN l n I).2;rw[←Nat.add_assoc] at d2;have HH:=HF.out l[n] (FE I) wr U;generalize hx:l[n]=x at *;have HX:=Fx hx;have HH':=Fx HH;clear HH hc hx
  cases O:p x with
  | true =>
   have D:ej p l=(n:Int):=sc I (fun j J=>M j J (by omega)) ((congrArg p HX.out).trans O);rw[O] at HH';have HP:=Fx D;clear D O;go_wp2_with fail
   refine HH'.out.mono ?_;rintro e W2 ⟨rfl,N⟩;go_wp2;go_ret;exact ⟨by rw[HP.out];rfl,U.trans N⟩
  | false =>
   have hno':Hid (∀ j (J:j<n+1) (Z:j<l.length),p l[j]=false):=fun j J Z=>by
    by_cases h:j<n
    ·exact M j h Z
    obtain rfl:j=n:=by omega
    exact (congrArg p HX.out).trans O
   rw[O] at HH';clear O;go_wp2_with fail
   refine HH'.out.mono ?_;rintro e W2 ⟨rfl,N⟩;go_wp2;go_roundw
   case rel=>exact ⟨n+1,by omega,by go_num,hno',U.trans N⟩
   case measure=>simp[intOf];omega
 have D:Hid (ej p l= -1):=qV fun j J=>M j (by omega) J
 go_wp2;go_ret;exact ⟨by rw[D.out];rfl,U⟩
theorem fZ (k:Nat) (cap:Array Value) (I:∀ args w,(callFunc k args).run Tryz.prog w= .ok (.enter k args) w) (p:Cl→Bool) (l:List Cl) (A:Option Addr) (c:Nat) (w:World) (D:Rd w [] 2 A l.length (ai l)) (N:l.length≤4294967296) (J:C4 k cap p l w) :
  Calls Tryz.prog 35 #[FN A l.length c,.func (.func k) #[] cap] w fun e w'=>e=FP (.bool (l.any p))∧aa [] w w':=by
 have M:=Fx (iU k cap I p l A c w D N J);clear D J I;rw[←sd];go_enter Tryz.func35,Tryz.ntmps35
 go_wp2_with (go_at_call 71;refine M.out.mono ?_;rintro e O ⟨rfl,h⟩)
 go_ret;exact ⟨rfl,h⟩
theorem nw {w:World} {L:List Nat} {A:Option Addr} {l:List Cl} {k:Nat} (h:Rd w L 2 A l.length (ai l)) (Z:k≤l.length):Rd w L 2 A (l.take k).length (ai (l.take k)):=by
 refine ⟨nv _,fun N=>?_⟩;obtain ⟨M,e,O,D,U⟩:=h.2 (by rw[FH] at N;omega);refine ⟨M,e,O,D,fun j u I=>U j u ?_⟩;have J:ai l=ai (l.take k)++ai (l.drop k):=by rw[←iS,List.take_append_drop]
 rw[J,List.getElem?_append_left (List.getElem?_eq_some_iff.1 I).1];exact I
theorem ul (c d:Cl) (b:Nat) (w:World) (h:w.cell? ⟨b,0,none⟩=some (FM (bs c.name))) :
  Calls Tryz.prog 51 #[BM d,FO (some ⟨b,0,none⟩)] w fun e w'=>e=FP (.bool (d.name==c.name))∧aa [] w w':=by
 have D:=FC _ _ h;have hb':(w.alloc (FQ #[FM (bs d.name),FR FS d.kind] 64)).cell? ⟨b,0,none⟩=some (FM (bs c.name)):=((aa.refl [] w).alloc _).cell_of h (by simp);show Calls _ _ #[.agg #[FM (bs d.name),FR FS d.kind],FO (some ⟨b,0,none⟩)] w _;clear h D;go_enter Tryz.func51,Tryz.ntmps51
 go_wp2;go_ret;exact ⟨rfl,(aa.refl _ _).alloc _⟩
theorem se {l:List Cl} {n:Nat} (h:n<l.length) (D:fY l n=false):cp l=false:=by
 unfold cp;have:(List.range l.length).all (fY l)=false:=by
  rw[List.all_eq_false];exact ⟨n,List.mem_range.2 h,by rw[D];decide⟩
 rw[this,Bool.and_false]
theorem gj (l:List Cl) (A:Option Addr) (c:Nat) (w:World) (hR:Rd w [] 2 A l.length (ai l)) (hc:l.length≤c) (hn:∀ x∈l,x.name.length≤1000000000) (hl:l.length≤4294967296) :
  Calls Tryz.prog 19 #[FN A l.length c] w fun e w'=>e=FP (.bool (cp l))∧aa [] w w':=by
 have HR:=Fx hR;have HN:=Fx hn;clear hR hn;by_cases h1:1≤l.length∧l.length≤6
 ·have q1:¬((l.length:Int)<1):=by omega
  have q2:¬((6:Int)<(l.length:Int)):=by omega
  have HQ:=Fx h1;clear h1;go_enter Tryz.func19,Tryz.ntmps19
  go_wp2;go_loopw [15] (fun i wr=>∃ n:Nat,n≤l.length∧i=FR FS n∧Hid (∀ j,j<n→fY l j=true)∧aa [] w wr) (fun i _=>l.length-(intOf i).toNat)
  case atStart=>exact ⟨0,FF _,rfl,fun j hj=>absurd hj (by omega),aa.refl _ _⟩
  obtain ⟨n,hn,rfl,a8,hk⟩:=hrel;by_cases a1:n<l.length
  ·obtain ⟨b,o,rfl,_,hb,a6⟩:=(HR.out.keep hk).open' (by omega) (by omega)
   have d1:=a6 (n*2) _ (aN l n a1).1;have d2:=a6 (n*2+1) _ (aN l n a1).2;rw[←Nat.add_assoc] at d2;have a7:=HN.out _ (FE a1);have N:fY l n=(eC l[n].name&&(decide (l[n].kind=1)||decide (l[n].kind=2)) && !((l.take n).any fun d=>d.name==l[n].name)):=by unfold fY;rw[FA a1]
   generalize l[n]=x at *;obtain ⟨nm,kd⟩:=x;simp only at d1 d2 a7 N;have av:=sa nm a7;have O:=fun W (q:aa [] w W) (hx:W.cell? ⟨wr.heap.size,0,none⟩=some (FM (bs nm)))=>fZ 51 #[FO (some ⟨wr.heap.size,0,none⟩)] (enters_of Tryz.func51 (by kernel_rfl) rfl) (fun d=>d.name==nm) (l.take n) (some ⟨b,o,none⟩) c W (nw (HR.out.keep q) (by omega)) (by rw[FH];omega) (fun d hd W2 q2=>ul ⟨nm,kd⟩ d wr.heap.size W2 (q2.cell_of hx (by simp)))
   have a4:(l.take n).length=n:=by rw[FH];omega
   rw[a4] at O;have a5:fY l n=false→Hid (cp l=false):=fun h=>se a1 h
   have a0:=Fx a5;have M:=Fx (hk.alloc (FQ #[FM (bs nm),FR FS kd] 64));have ba:n≤c:=by omega
   clear a6 hk a7 a5 a4
   cases a3:eC nm with
   | false =>
    rw[a3] at av N;have U:=Fx av;have HF:=a0.out (by rw[N];rfl);clear av O N a3;go_wp2_with (go_at_call 29;refine (U.out _).mono ?_;rintro e w5 ⟨rfl,D⟩)
    go_ret;exact ⟨by rw[HF.out];rfl,M.out.trans D⟩
   | true =>
    rw[a3] at av N;have U:=Fx av;clear av a3;by_cases J:kd=1∨kd=2
    ·have I:fY l n= !((l.take n).any fun d=>d.name==nm):=by rw[N];rcases J with rfl|rfl<;>rfl
     clear N
     cases a2:(l.take n).any (fun d=>d.name==nm) with
     | true =>
      rw[a2] at O I;have aA:=Fx O;have HF:=a0.out (by rw[I];rfl);clear O I a2;rcases J with rfl|rfl
      ·go_wp2_with (first|(go_at_call 29;refine (U.out _).mono ?_;rintro e w5 ⟨rfl,D⟩;have q0:=D.cell_of (p:=⟨wr.heap.size,0,none⟩) (v:=FM (bs nm)) (by simp) (by simp);have q1:=D.cell_of (p:=⟨wr.heap.size,1,none⟩) (v:=FR FS 1) (by simp) (by simp))|(go_at_call 35;refine (aA.out _ (M.out.trans D) q0).mono ?_;rintro e w6 ⟨rfl,Z⟩))
       go_ret;exact ⟨by rw[HF.out];rfl,(M.out.trans D).trans Z⟩
      go_wp2_with (first|(go_at_call 29;refine (U.out _).mono ?_;rintro e w5 ⟨rfl,D⟩;have q0:=D.cell_of (p:=⟨wr.heap.size,0,none⟩) (v:=FM (bs nm)) (by simp) (by simp);have q1:=D.cell_of (p:=⟨wr.heap.size,1,none⟩) (v:=FR FS 2) (by simp) (by simp))|(go_at_call 35;refine (aA.out _ (M.out.trans D) q0).mono ?_;rintro e w6 ⟨rfl,Z⟩))
      go_ret;exact ⟨by rw[HF.out];rfl,(M.out.trans D).trans Z⟩
     | false =>
      rw[a2] at O I;have aA:=Fx O;have hno':Hid (∀ j,j<n+1→fY l j=true):=fun j hj=>by
       by_cases h:j<n
       ·exact a8.out j h
       obtain rfl:j=n:=by omega
       rw[I];rfl
      clear O I a2;rcases J with rfl|rfl
      ·go_wp2_with (first|(go_at_call 29;refine (U.out _).mono ?_;rintro e w5 ⟨rfl,D⟩;have q0:=D.cell_of (p:=⟨wr.heap.size,0,none⟩) (v:=FM (bs nm)) (by simp) (by simp);have q1:=D.cell_of (p:=⟨wr.heap.size,1,none⟩) (v:=FR FS 1) (by simp) (by simp))|(go_at_call 35;refine (aA.out _ (M.out.trans D) q0).mono ?_;rintro e w6 ⟨rfl,Z⟩))
       go_roundw
       case rel=>exact ⟨n+1,by omega,by go_num,hno',(M.out.trans D).trans Z⟩
       case measure=>simp[intOf];omega
      go_wp2_with (first|(go_at_call 29;refine (U.out _).mono ?_;rintro e w5 ⟨rfl,D⟩;have q0:=D.cell_of (p:=⟨wr.heap.size,0,none⟩) (v:=FM (bs nm)) (by simp) (by simp);have q1:=D.cell_of (p:=⟨wr.heap.size,1,none⟩) (v:=FR FS 2) (by simp) (by simp))|(go_at_call 35;refine (aA.out _ (M.out.trans D) q0).mono ?_;rintro e w6 ⟨rfl,Z⟩))
      go_roundw
      case rel=>exact ⟨n+1,by omega,by go_num,hno',(M.out.trans D).trans Z⟩
      case measure=>simp[intOf];omega
    have bb:(kd != 1)=true:=by rw[bne_iff_ne];exact fun h=>J (.inl h)
    have a9:(kd != 2)=true:=by rw[bne_iff_ne];exact fun h=>J (.inr h)
    have I:fY l n=false:=by rw[N];have h1:kd≠1:=fun h=>J (.inl h);have h2:kd≠2:=fun h=>J (.inr h);simp[h1,h2]
    have HF:=a0.out I;clear N I O J;go_wp2_with (go_at_call 29;refine (U.out _).mono ?_;rintro e w5 ⟨rfl,D⟩;have q1:=D.cell_of (p:=⟨wr.heap.size,1,none⟩) (v:=FR FS kd) (by simp) (by simp))
    go_ret;exact ⟨by rw[HF.out];rfl,M.out.trans D⟩
  have ad:Hid (cp l=true):=by
   unfold cp;have h:=HQ.out;rw[decide_eq_true h.1,decide_eq_true h.2,Bool.and_self,Bool.true_and,List.all_eq_true];intro j hj;exact a8.out j (by have:=List.mem_range.1 hj;omega)
  go_wp2;go_ret;exact ⟨by rw[ad.out];rfl,hk⟩
 have ad:Hid (cp l=false):=by
  unfold cp;have:(decide (1≤l.length)&&decide (l.length≤6))=false:=by
   rw[←Bool.not_eq_true,Bool.and_eq_true,decide_eq_true_iff,decide_eq_true_iff];exact h1
  rw[this,Bool.false_and];exact Fx rfl
 by_cases h2:l.length<1
 ·have h2':(l.length:Int)<1:=by omega
  clear h1;go_enter Tryz.func19,Tryz.ntmps19
  go_wp2;go_ret;exact ⟨by rw[ad.out];rfl,aa.refl _ _⟩
 have h2':¬((l.length:Int)<1):=by omega
 have h3':(6:Int)<(l.length:Int):=by omega
 clear h1;go_enter Tryz.func19,Tryz.ntmps19
 go_wp2;go_ret;exact ⟨by rw[ad.out];rfl,aa.refl _ _⟩
end
end Go.Proofs.YtecpeogejjibaaaGreatDoor
