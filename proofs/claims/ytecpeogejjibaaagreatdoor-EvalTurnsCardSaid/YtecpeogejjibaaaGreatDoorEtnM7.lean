/- Jobs as plain data: which columns a job makes, and what it makes of tables. No program in sight. Flows as plain data: how a text is cut, what it is read as, how a flow is written. No program in sight. Tokens and parsers in memory. The parser's must and name. The parser's names. The parser's names, walked. The parser's one: one of some marks. The package-level variables that flows lean on. The parser's value. The parser's arg. The parser's input. A job that is being read, in memory. The parser's where. The parser's of. The parser's body, where there is no job. The parser's body at its codes. The parser's body at its codes. Plans as plain data: which job may come, in which order, which columns there are. No program in sight. -/
import Derived.Test.YtecpeogejjibaaaGreatDoorEtnM4
import Derived.Test.YtecpeogejjibaaaGreatDoorEtnM3
import Derived.Lib.Join
import Derived.Lib.Bytealg
import Derived.Lib.Strings
import Derived.Lib.SlicesS
import Derived.Test.YtecpeogejjibaaaGreatDoorProg
import Derived.Test.YtecpeogejjibaaaGreatDoorEtnM1
import Derived.Deep.DeepCutAuto
set_option linter.unusedSimpArgs false
set_option linter.unusedVariables false
set_option maxRecDepth 100000
set_option maxHeartbeats 16000000
namespace Go.Proofs.YtecpeogejjibaaaGreatDoor
open Go.Lib renaming hid → Fk
open _root_.Nat renaming le_refl → Fm, le_trans → Ft, zero_le → Fu
open _root_.List renaming length_append → Fo, getElem?_eq_getElem → Fp, length_cons → Fv, getD_eq_getElem?_getD → Fy
open Go.World renaming block_lt_of_cell? → Fq, news_of_block → Fx
open aa renaming refl → Fz
open ao renaming new → FA
open Go.Value renaming string → FC, slice → FD, pointer → FE, int → FH
open Go.Ending renaming returned → FF
open Go.Obj renaming cells → FG
open Go.IntKind renaming i64 → FI
section
structure Ar where
 col:Bs
 val:Vl
deriving DecidableEq
structure Jb where
 at_:Int
 code:Int
 outs:List Bs
 ins:List Bs
 cols:List Bs
 op:Bs
 left:Ar
 right:Ar
 retry:Int
deriving DecidableEq
def zV:Vl:=⟨0,0,[]⟩
def zC:Cl:=⟨[],0⟩
def compares:List Bs:=[[61],[60,62],[60],[60,61],[62],[62,61]]
def nK (a:Vl) (op:Bs) (b:Vl):Bool :=
 if op=[61] then !cH a b && !cH b a
 else if op=[60,62] then cH a b||cH b a
 else if op=[60] then cH a b
 else if op=[60,61] then !cH b a
 else if op=[62] then cH b a
 else !cH a b
def an (l:List Cl) (nm:Bs):Option Nat:=l.findIdx? fun c=>c.name==nm
def dR (a:Ar) (l:List Cl):Int :=
 if a.col=[] then (if eO a.val then a.val.kind else 0)
 else match an l a.col with
  | none=>0
  | some k=>if a.val=zV then (l.getD k zC).kind else 0
def bB (a:Ar) (l:List Cl) (r:List Vl):Vl :=
 if a.col=[] then a.val else match an l a.col with
  | none=>zV
  | some k=>r.getD k zV
def aw (code:Int):Nat×Nat:=if code=5∨code=7 then (2,1) else if code=9 then (1,2) else if code=1∨code=2∨code=3∨code=4∨code=6∨code=8 then (1,1) else (0,0)
def aX (j:Jb) (a:List Cl):Except Int (List (List Cl)) :=
 if j.op∉compares∨j.left.col=[] then .error 1
 else match an a j.left.col with
  | none=> .error 7
  | some k=>if dR j.right a≠(a.getD k zC).kind then .error 13 else .ok (List.replicate (if j.code=9 then 2 else 1) a)
def jS (j:Jb) (a:List Cl):Except Int (List (List Cl)) :=
 if j.cols.length≠1∨¬(j.op=[43]∨j.op=[45]∨j.op=[42]) then .error 1
 else match an a (j.cols.headD []) with
  | none=> .error 7
  | some k=>if (a.getD k zC).kind≠1∨dR j.left a≠1∨dR j.right a≠1 then .error 13 else .ok [a]
def cW (a:List Cl):List Bs→List Bs→List Cl→Except Int (List Cl)
 | _,[],out=> .ok out
 | seen,n::ns,out=>match an a n with
  | none=> .error 7
  | some k=>if n∈seen then .error 9 else cW a (seen++[n]) ns (out++[a.getD k zC])
def bW (j:Jb) (a:List Cl):Except Int (List (List Cl)) :=
 if j.cols.length=0∨6<j.cols.length then .error 1
 else match cW a [] j.cols [] with
  | .error e=> .error e
  | .ok out=> .ok [if j.code=4 then a else out]
def cF (j:Jb) (a:List Cl):Except Int (List (List Cl)) :=
 if j.cols.length≠2∨¬(j.op=[115,117,109]∨j.op=[109,97,120]) then .error 1
 else match an a (j.cols.getD 0 []),an a (j.cols.getD 1 []) with
  | some k,some m=>if (a.getD m zC).kind≠1 then .error 13 else if k=m then .error 9 else .ok [[a.getD k zC,a.getD m zC]]
  | _,_=> .error 7
def kp (out:List Cl):Bool:=(List.range out.length).any fun i=>(an (out.take i) (out.getD i zC).name).isSome
def dg (j:Jb) (a b:List Cl):Except Int (List (List Cl)) :=
 if j.cols.length≠2 then .error 1
 else match an a (j.cols.getD 0 []),an b (j.cols.getD 1 []) with
  | some k,some m=>if (a.getD k zC).kind≠(b.getD m zC).kind then .error 13
   else if kp (a++b.take m++b.drop (m+1)) then .error 9
   else if 6<(a++b.take m++b.drop (m+1)).length then .error 4 else .ok [a++b.take m++b.drop (m+1)]
  | _,_=> .error 7
def aK (j:Jb) (ins:List (List Cl)):Except Int (List (List Cl)) :=
 if (aw j.code).1=0∨ins.length≠(aw j.code).1∨j.outs.length≠(aw j.code).2 then .error 1
 else if j.code=1∨j.code=9 then aX j (ins.getD 0 [])
 else if j.code=2 then jS j (ins.getD 0 [])
 else if j.code=3∨j.code=4 then bW j (ins.getD 0 [])
 else if j.code=5 then (if ins.getD 0 []≠ins.getD 1 [] then .error 13 else .ok [ins.getD 0 []])
 else if j.code=7 then dg j (ins.getD 0 []) (ins.getD 1 [])
 else if j.code=8 then cF j (ins.getD 0 [])
 else .ok [ins.getD 0 []]
def cZ (j:Jb) (a:Tb) (r:List Vl):Bool:=nK (bB j.left a.cols r) j.op (bB j.right a.cols r)
def jT (op:Bs) (x y:Int):Int:=if op=[43] then x+y else if op=[45] then x-y else x*y
def bp (j:Jb) (a:Tb) (r:List Vl):Option (List Vl) :=
 let n:=jT j.op (bB j.left a.cols r).num (bB j.right a.cols r).num
 if 1000000000<n∨n < -1000000000 then none
 else match an a.cols (j.cols.headD []) with
  | none=>none
  | some k=>some (r.set k ⟨(r.getD k zV).kind,n,(r.getD k zV).word⟩)
def aO (j:Jb) (a:Tb):List (List Vl)→List (List Vl)→Option (List (List Vl))
 | [],out=>some out
 | r::h,out=>match bp j a r with
  | none=>none
  | some x=>aO j a h (out++[x])
def fw (j:Jb) (a:Tb) (r:List Vl):List Vl:=j.cols.map fun n=>match an a.cols n with
 | none=>zV
 | some k=>r.getD k zV
def aI:List (List Vl)→List Bs→List (List Vl)→List (List Vl)
 | [],_,out=>out
 | r::h,seen,out=>if bM r∈seen then aI h seen out else aI h (bM r::seen) (out++[r])
def ed (a:List Cl) (n:Bs):Nat:=(an a n).getD 0
def cK (a:Tb) (ns:List Bs):List (List Vl):=ee (Dm (ns.map (ed a.cols))) a.rows
def bK (k m:Nat) (a b:List (List Vl)):List (List Vl):=a.flatMap fun x=>(b.filter fun y=>decide (x.getD k zV=y.getD m zV)).map fun y=>x++y.take m++y.drop (m+1)
def sD:Bs:=[115,117,109]
def rh (op:Bs) (v w:Vl):Vl:=⟨v.kind,if op=sD then v.num+w.num else max v.num w.num,v.word⟩
def ip (op:Bs) (k m:Nat) (acc:List (Vl×Vl)) (r:List Vl):List (Vl×Vl):=match acc.getLast? with
 | none=>acc++[(r.getD k zV,r.getD m zV)]
 | some g=>if g.1=r.getD k zV then acc.dropLast++[(g.1,rh op g.2 (r.getD m zV))] else acc++[(r.getD k zV,r.getD m zV)]
def aM (op:Bs) (k m:Nat) (h:List (List Vl)):List (Vl×Vl):=h.foldl (ip op k m) []
def dK (g:List (Vl×Vl)):List (List Vl):=g.map fun p=>[p.1,p.2]
def fo (j:Jb) (ins:List Tb) (out:List (List Cl)):Except Int (List (List (List Vl))) :=
 let a:=ins.getD 0 ⟨[],[]⟩
 if j.code=1∨j.code=9 then .ok ([a.rows.filter (cZ j a),a.rows.filter fun r=> !cZ j a r].take out.length)
 else if j.code=2 then (match aO j a a.rows [] with
  | none=> .error 2
  | some l=> .ok [l])
 else if j.code=3 then .ok [a.rows.map (fw j a)]
 else if j.code=5 then .ok [a.rows++(ins.getD 1 ⟨[],[]⟩).rows]
 else .ok [aI a.rows [] []]
def bw (j:Jb) (ins:List Tb) (out:List (List Cl)):Except Int (List (List (List Vl))) :=
 let a:=ins.getD 0 ⟨[],[]⟩
 let b:=ins.getD 1 ⟨[],[]⟩
 if j.code=4 then .ok [cK a j.cols]
 else if j.code=7 then .ok [bK (ed a.cols (j.cols.getD 0 [])) (ed b.cols (j.cols.getD 1 [])) a.rows b.rows]
 else if j.code=8 then
  let g:=aM j.op (ed a.cols (j.cols.getD 0 [])) (ed a.cols (j.cols.getD 1 [])) (cK a [j.cols.getD 0 []])
  if g.any fun p=> !eO p.2 then .error 2 else .ok [dK g]
 else fo j ins out
theorem gL {j:Jb} {ins:List Tb} {out:List (List Cl)} (h:j.code≠4) (H:j.code≠7) (D:j.code≠8):bw j ins out=fo j ins out:=by
 unfold bw;simp only;rw[if_neg h,if_neg H,if_neg D]
def de:List (List Cl)→List (List (List Vl))→Except Int (List Tb)
 | c::cs,r::h=>if 60<r.length then .error 12 else match de cs h with
  | .error e=> .error e
  | .ok l=> .ok (⟨c,r⟩::l)
 | _,_=> .ok []
def j6 (j:Jb) (ins:List Tb):Except Int (List Tb) :=
 if ins.any fun t=> !ak t then .error 1
 else match aK j (ins.map (·.cols)) with
  | .error e=> .error e
  | .ok out=>match bw j ins out with
   | .error e=> .error e
   | .ok h=>de out h
def kq (j:Jb) (l:List Tb):Option Tb:=match j6 { j with outs:=[[120],[121]].take (1+(j.code / 9).toNat) } l with
 | .error _=>none
 | .ok out=>if out.length=([[120],[121]].take (1+(j.code / 9).toNat):List Bs).length then out.head? else none
structure Tk where
 kind:Int
 text:Bs
 at_:Int
deriving DecidableEq
structure In where
 at_:Int
 name:Bs
 cols:List Cl
deriving DecidableEq
structure Pb where
 at_:Int
 name:Bs
 src:Bs
deriving DecidableEq
structure Fl where
 ins:List In
 jobs:List Jb
 outs:List Pb
deriving DecidableEq
def jU (c:UInt8):Bool:=decide (97≤c.toNat)&&decide (c.toNat≤122)
def iZ (c:UInt8):Bool:=decide (48≤c.toNat)&&decide (c.toNat≤57)
def sE (c:UInt8):Bool:=jU c||iZ c
def gu (p:UInt8→Bool):Bs→Nat
 | []=>0
 | c::s=>if p c then gu p s+1 else 0
def aJ:List Bs:=[[60,62],[60,61],[62,61],[60],[62],[61],[43],[45],[42],[44],[59],[58],[46]]
def bP (s:Bs):List Bs→Nat
 | []=>0
 | m::ms=>if Lib.hasPrefix s m then m.length else bP s ms
def bH (s:Bs):Int×Nat :=
 if jU (s.headD 0) then (1,gu sE s)
 else if iZ (s.headD 0) then (2,gu iZ s)
 else if s.headD 0=39 then (3,if Lib.indexByte s.tail 39<0 then 0 else (Lib.indexByte s.tail 39).toNat+2)
 else (4,bP s aJ)
def fp:Nat→Bs→Nat→List Tk→Except (Int×Int) (List Tk)
 | 0,_,i,acc=> .ok (acc++[⟨5,[],i⟩])
 | _+1,[],i,acc=> .ok (acc++[⟨5,[],i⟩])
 | f+1,c::t,i,acc =>
  if c=32∨c=10 then fp f t (i+1) acc
  else if (bH (c::t)).2=0 then .error (3,i)
  else if acc.length=400 then .error (4,i)
  else fp f ((c::t).drop (bH (c::t)).2) (i+(bH (c::t)).2) (acc++[⟨(bH (c::t)).1,(c::t).take (bH (c::t)).2,i⟩])
def uJ (s:Bs):Except (Int×Int) (List Tk):=fp s.length s 0 []
def Fi:Tk:=⟨5,[],0⟩
def aS (l:List Tk):Tk:=l.headD Fi
def fK {α:Type} (e:Int) (l:List Tk):Except (Int×Int) α:= .error (e,(aS l).at_)
def bC (s:Bs) (l:List Tk):Bool:=(aS l).kind != 5&&(aS l).text==s
def aR (s:Bs) (l:List Tk):Except (Int×Int) (List Tk):=if bC s l then .ok l.tail else fK 3 l
def aQ (l:List Tk):Except (Int×Int) (Bs×List Tk):=if (aS l).kind≠1 then fK 3 l else if 10<(aS l).text.length then fK 4 l else .ok ((aS l).text,l.tail)
def dU:Nat→List Tk→List Bs→Except (Int×Int) ((List Bs)×List Tk)
 | 0,l,acc=> .ok (acc,l)
 | n+1,l,acc=>if bC [44] l then do
   let (s,r) ← aQ l.tail
   dU n r (acc++[s])
  else .ok (acc,l)
def fh (l:List Tk):Except (Int×Int) ((List Bs)×List Tk):=do
 let (s,r) ← aQ l
 dU r.length r [s]
def kr (r:List Tk) (v:Vl):Except (Int×Int) (Vl×List Tk):=if eO v then .ok (v,r.tail) else fK 4 r
def jV (s:Bs):Bs:=(s.take (s.length-1)).drop 1
def eS (h:Bool) (r:List Tk):Except (Int×Int) (Vl×List Tk) :=
 if h&&(aS r).kind != 2 then fK 3 r
 else if (aS r).kind=3 then kr r ⟨2,0,jV (aS r).text⟩
 else if (aS r).kind=2 then match Lib.atoiAll (aS r).text with
  | .ok n=>kr r ⟨1,if h then -n else n,[]⟩
  | _=>fK 4 r
 else fK 3 r
def iq (l:List Tk):Except (Int×Int) (Vl×List Tk):=if bC [45] l then eS true l.tail else eS false l
def lK (l:List Tk):Except (Int×Int) (Ar×List Tk):=if (aS l).kind=1 then do
  let (s,r) ← aQ l
  .ok (⟨s,zV⟩,r)
 else do
  let (v,r) ← iq l
  .ok (⟨[],v⟩,r)
def ga (l:List Tk):List Bs→Option Nat
 | []=>none
 | m::ms=>if bC m l then some 0 else (ga l ms).map (· + 1)
def iu (ms:List Bs) (l:List Tk):Except (Int×Int) (Bs×List Tk):=match ga l ms with
 | none=>fK 3 l
 | some k=> .ok (ms.getD k [],l.tail)
def zO (l:List Tk):Except (Int×Int) (Cl×List Tk):=do
 let (s,r) ← aQ l
 let (k,r) ← iu [[105,110,116],[116,101,120,116]] r
 .ok (⟨s,if k=[116,101,120,116] then 2 else 1⟩,r)
def dD:Nat→List Tk→List Cl→Except (Int×Int) ((List Cl)×List Tk)
 | 0,l,acc=> .ok (acc,l)
 | n+1,l,acc=>do
  let (c,r) ← zO l
  if bC [44] r then dD n r.tail (acc++[c]) else .ok (acc++[c],r)
def eE (l:List Tk):Except (Int×Int) (In×List Tk):=do
 let r ← aR [105,110] l
 let (nm,r) ← aQ r
 let r ← aR [58] r
 let (cs,r) ← dD r.length r []
 let r ← aR [59] r
 .ok (⟨(aS l).at_,nm,cs⟩,r)
def xF:List Bs:=[[60,62],[60,61],[62,61],[60],[62],[61]]
def ei (j:Jb) (l:List Tk):Except (Int×Int) (Jb×List Tk):=do
 let r ← aR [119,104,101,114,101] l
 let (s,r) ← aQ r
 let (o,r) ← iu xF r
 let (a,r) ← lK r
 .ok ({ j with left:=⟨s,zV⟩,op:=o,right:=a },r)
def xG (j:Jb) (l:List Tk):Except (Int×Int) (Jb×List Tk):=do
 let (a,r) ← aQ l
 let r ← aR [46] r
 let (b,r) ← aQ r
 .ok ({ j with ins:=j.ins++[a],cols:=j.cols++[b] },r)
def eF:List Bs:=[[],[102,105,108,116,101,114],[115,101,116],[112,114,111,106,101,99,116],[115,111,114,116],[117,110,105,111,110],[100,105,115,116,105,110,99,116],[106,111,105,110],[103,114,111,117,112],[115,112,108,105,116]]
def i6 (c:Nat):Bs:=eF.getD c []
def dS (s:Bs):List Bs→Nat→Nat
 | [],_=>0
 | m::ms,i=>if m=s then i else dS s ms (i+1)
def bR (s:Bs):Nat:=dS s eF 0
def sF (j:Jb) (l:List Tk):Except (Int×Int) (Jb×List Tk):=do
 let r ← aR [58] l
 let (s,r) ← aQ r
 let r ← aR [61] r
 let (a,r) ← lK r
 let (o,r) ← iu [[43],[45],[42]] r
 let (b,r) ← lK r
 .ok ({ j with cols:=[s],left:=a,op:=o,right:=b },r)
def zP (j:Jb) (l:List Tk):Except (Int×Int) (Jb×List Tk):=do
 let r ← aR [98,121] l
 let (ns,r) ← fh r
 .ok ({ j with cols:=ns },r)
def i7 (j:Jb) (l:List Tk):Except (Int×Int) (Jb×List Tk):=do
 let r ← aR [98,121] l
 let (a,r) ← aQ r
 let (o,r) ← iu [[115,117,109],[109,97,120]] r
 let (b,r) ← aQ r
 .ok ({ j with cols:=[a,b],op:=o },r)
def nL (j:Jb) (l:List Tk):Except (Int×Int) (Jb×List Tk):=do
 let (j,r) ← xG j l
 let r ← aR [44] r
 xG j r
def ku (j:Jb) (l:List Tk):Except (Int×Int) (Jb×List Tk):=do
 let (a,r) ← aQ l
 let r ← aR [44] r
 let (b,r) ← aQ r
 .ok ({ j with ins:=j.ins++[a]++[b] },r)
def j7 (j:Jb) (l:List Tk):Except (Int×Int) (Jb×List Tk) :=
 if j.code=1∨j.code=9 then ei j l
 else if j.code=2 then sF j l
 else if j.code=3∨j.code=4 then zP j l
 else if j.code=8 then i7 j l
 else .ok (j,l)
def bF (j:Jb) (l:List Tk):Except (Int×Int) (Jb×List Tk) :=
 if bR (aS l).text=0∨(aS l).kind≠1 then fK 3 l
 else if bR (aS l).text=7 then nL { j with code:=(bR (aS l).text:Int) } l.tail
 else if bR (aS l).text=5 then ku { j with code:=(bR (aS l).text:Int) } l.tail
 else do
  let (a,r) ← aQ l.tail
  j7 { j with code:=(bR (aS l).text:Int),ins:=j.ins++[a] } r
def dW (l:List Tk):Except (Int×Int) (Int×List Tk) :=
 if bC [114,101,116,114,121] l then
  if (aS l.tail).kind≠2 then fK 3 l.tail
  else match Lib.atoiAll (aS l.tail).text with
   | .ok n=>if 5<n then fK 4 l.tail else .ok (n,l.tail.tail)
   | _=>fK 4 l.tail
 else .ok (0,l)
def BW (D:Int) (outs:List Bs) (h:Int):Jb:=⟨D,0,outs,[],[],[],⟨[],zV⟩,⟨[],zV⟩,h⟩
def kT (l:List Tk):Except (Int×Int) (Jb×List Tk):=do
 let r ← aR [106,111,98] l
 let (os,r) ← fh r
 let (n,r) ← dW r
 let r ← aR [61] r
 let (j,r) ← bF (BW (aS l).at_ os n) r
 let r ← aR [59] r
 .ok (j,r)
def ng (l:List Tk):Except (Int×Int) (Pb×List Tk):=do
 let r ← aR [111,117,116] l
 let (a,r) ← aQ r
 let r ← aR [61] r
 let (b,r) ← aQ r
 let r ← aR [59] r
 .ok (⟨(aS l).at_,a,b⟩,r)
def cR {α:Type} (w:Bs) (h:List Tk→Except (Int×Int) (α×List Tk)):Nat→List Tk→List α→Except (Int×Int) ((List α)×List Tk)
 | 0,l,acc=> .ok (acc,l)
 | n+1,l,acc=>if bC w l then (if acc.length=16 then fK 4 l else do
   let (x,r) ← h l
   cR w h n r (acc++[x]))
  else .ok (acc,l)
def qj (l:List Tk):Except (Int×Int) (Fl×List Tk):=do
 let (a,r) ← cR [105,110] eE l.length l []
 let (b,r) ← cR [106,111,98] kT r.length r []
 let (c,r) ← cR [111,117,116] ng r.length r []
 .ok (⟨a,b,c⟩,r)
def lL (l:List Tk):Except (Int×Int) Fl:=do
 let (f,r) ← qj l
 if (aS r).kind≠5 then fK 3 r else .ok f
def fi (s:Bs):Except (Int×Int) Fl:=do
 let l ← uJ s
 lL l
end
section
open Go.RowKit Go.BigFrame
def uK (t:Tk):List Value:=[FH FI t.kind,FC (bs t.text),FH FI t.at_]
def ej (l:List Tk):List Value:=l.flatMap uK
def i8 (l:List Tk):Prop:=∃ h t,l=h++[t]∧t.kind=5
theorem i8.pos {l:List Tk} (h:i8 l):0<l.length:=by
 obtain ⟨D,t,rfl,_⟩:=h;simp
theorem i8.tail {l:List Tk} (h:i8 l) (I:(aS l).kind≠5):i8 l.tail:=by
 obtain ⟨D,t,rfl,H⟩:=h
 cases D with
 | nil=>exact absurd H I
 | cons a D=>exact ⟨D,t,rfl,H⟩
theorem dY {s:Bs} {l:List Tk} (h:bC s l=true):(aS l).kind≠5:=by
 unfold bC at h;intro e;rw[e] at h;simp at h
def dP (W:World) (g:Nat) (e:TypeId):Prop:=∃ cs h,W.heap[g]? = some (FG cs e h)
theorem dP.keep {W W':World} {g:Nat} {e:TypeId} {L:List Nat} (h:dP W g e) (H:aa L W W') (I:g∉L):dP W' g e:=by
 obtain ⟨cs,D,h⟩:=h;exact ⟨cs,D,(H.block g (Array.getElem?_eq_some_iff.1 h).1 I).trans h⟩
theorem dP.ne {W:World} {g H:Nat} {e I:TypeId} (h:dP W g e) (h':dP W H I) (D:e≠I):g≠H:=by
 rintro rfl;obtain ⟨cs,N,h⟩:=h;obtain ⟨cs',J,h'⟩:=h';rw[h] at h';injection h' with h';injection h' with _ M;exact D M
theorem ao.ty {W:World} {g:Nat} {e:TypeId} {cs:Array Value} (h:ao W g e cs):dP W g e:=⟨cs,_,h⟩
def BK (t:Tk):Prop:=t.text.length≤1000000∧(t.kind=2→∀ c∈t.text,iZ c=true)∧(t.kind=3→2≤t.text.length)
def Ps (W:World) (b:Nat) (l:List Tk):Prop :=
 ∃ g o c,ao W b 111 #[FD (some ⟨g,o,none⟩) l.length c]∧(dP W g 114∧g<b)∧l.length≤c∧c≤9223372036854775807∧i8 l∧(∀ t∈l,BK t) ∧
  ∀ j u,(ej l)[j]? = some u→W.cell? ⟨g,o+j,none⟩=some u
theorem Ps.endT {W:World} {b:Nat} {l:List Tk} (h:Ps W b l):i8 l:=by obtain ⟨_,_,_,_,_,_,_,h,_⟩:=h;exact h
theorem Ps.ty {W:World} {b:Nat} {l:List Tk} (h:Ps W b l):dP W b 111:=by obtain ⟨_,_,_,h,_⟩:=h;exact h.ty
theorem Ps.lt {W:World} {b:Nat} {l:List Tk} (h:Ps W b l):b<W.heap.size:=by obtain ⟨_,_,_,h,_⟩:=h;exact h.lt
theorem Ps.far {W W':World} {b:Nat} {l:List Tk} {L:List Nat} (h:Ps W b l) (D:aa L W W') (V:∀ x∈L,∃ e,dP W x e∧e≠111∧e≠114):Ps W' b l:=by
 obtain ⟨g,o,c,M,H,h3,h4,h5,h6,h7⟩:=h;have Z:b∉L:=fun J=>by
  obtain ⟨e,I,N,O⟩:=V b J;exact I.ne M.ty N rfl
 have U:g∉L:=fun J=>by
  obtain ⟨e,I,N,O⟩:=V g J;exact I.ne H.1 O rfl
 exact ⟨g,o,c,M.keep D Z,⟨H.1.keep D U,H.2⟩,h3,h4,h5,h6,fun j u hu=>D.cell_of (h7 j u hu) U⟩
theorem Ps.keep {W W':World} {b:Nat} {l:List Tk} (h:Ps W b l) (D:aa [] W W'):Ps W' b l:=h.far D (fun x H=>by cases H)
theorem Ps.open' {W:World} {b:Nat} {l:List Tk} (h:Ps W b l):∃ g o c,W.cell? ⟨b,0,none⟩=some (FD (some ⟨g,o,none⟩) l.length c)∧W.frozen? ⟨b,0,none⟩=false∧b<W.heap.size∧g<W.heap.size∧g≠b∧0<l.length∧l.length≤c∧c≤9223372036854775807 ∧
  W.cell? ⟨g,o,none⟩=some (FH FI (aS l).kind)∧W.cell? ⟨g,o+1,none⟩=some (FC (bs (aS l).text))∧W.cell? ⟨g,o+2,none⟩=some (FH FI (aS l).at_)∧BK (aS l):=by
 obtain ⟨g,o,c,D,N,O,V,M,U,H⟩:=h;have I:=M.pos
 cases l with
 | nil=>simp at I
 | cons t r =>
  have J:=H 0 (FH FI t.kind) rfl;exact ⟨g,o,c,D.cell 0,D.frozen 0,D.lt,Fq _ _ J,Nat.ne_of_lt N.2,I,O,V,J,H 1 (FC (bs t.text)) rfl,H 2 (FH FI t.at_) rfl,U t (List.mem_cons_self ..)⟩
theorem Ps.step {W:World} {b g o c:Nat} {l:List Tk} (h:Ps W b l) (hc:W.cell? ⟨b,0,none⟩=some (FD (some ⟨g,o,none⟩) l.length c)) (hk:(aS l).kind≠5) {n:Nat} {a:Addr} {d:Nat} (hn:n=l.length-1) (ha:a=⟨g,o+3,none⟩) (hd:d=c-1):Ps (W.setCell ⟨b,0,none⟩ (FD (some a) n d)) b l.tail∧aa [b] W (W.setCell ⟨b,0,none⟩ (FD (some a) n d)):=by
 subst ha hn hd;obtain ⟨M,H,O,U,N,h3,h4,Z,h6,h7⟩:=h;have e:(Value.slice (some ⟨M,H,none⟩) l.length O)=FD (some ⟨g,o,none⟩) l.length c:=Option.some.inj ((U.cell 0).symm.trans hc);injection e with I e2 e3;injection I with I;injection I with I e4;subst I e4 e3;have ht:=Z.tail hk;have J:M≠b:=Nat.ne_of_lt N.2;have D:aa [b] W (W.setCell ⟨b,0,none⟩ (FD (some ⟨M,H+3,none⟩) (l.length-1) (O-1))):=aa.setCell (Fz _ _) (.inl (by simp)) _;refine ⟨⟨M,H+3,O-1,?_,⟨N.1.keep D (by simpa using J),N.2⟩,by rw[List.length_tail];omega,by omega,ht,fun t hm=>h6 t (List.mem_of_mem_tail hm),fun j u V=>?_⟩,D⟩
 ·exact (U.set 0 _).congr (by simp[List.length_tail])
 cases l with
 | nil=>cases V
 | cons t r =>
  have:=h7 (j+3) u (by simpa[ej,uK] using V);rw[show H+3+j=H+(j+3) by omega];exact D.cell_of this (by simpa using J)
def bS (x:Int×Int) (e:Ending) (w':World):Prop:=∃ h,e= .panicked [{ v:= .iface 104 (.agg #[.iface 73 (FE (some ⟨h,0,none⟩))]),recovered:=false }]∧ao w' h 75 #[FH FI x.1,FH FI x.2]
attribute [local go_sem] ag ab ae af
theorem kU (s:Bs) {l:List Tk} {b:Nat} (w:World) (h:Ps w b l) :
  Calls Tryz.prog 76 #[FE (some ⟨b,0,none⟩),FC (bs s)] w fun e w'=>e=FF (.bool (bC s l))∧w=w':=by
 obtain ⟨g,o,c,c0,-,lb,Z,-,O,N,J,k0,V,U,-⟩:=h.open';have M:(0:Int)<(l.length:Int):=by omega
 obtain ⟨B,D⟩:∃ B,bC s l=B:=⟨_,rfl⟩
 have H:=Fk D;rw[D];unfold bC at H;clear h D;cases I:(aS l).kind != 5
 all_goals
  rw[I] at H;go_enter Tryz.func76,Tryz.ntmps76
  go_wp2;go_ret;exact ⟨by rw[←H.out];rfl,rfl⟩
theorem eT (s:Bs) {l:List Tk} {b:Nat} (w:World) (h:Ps w b l) :
  Calls Tryz.prog 119 #[FE (some ⟨b,0,none⟩),FC (bs s)] w fun e w'=>e=FF (.bool (bC s l))∧Ps w' b (if bC s l then l.tail else l)∧aa [b] w w':=by
 have J:=Fk (kU s w h);obtain ⟨g,o,c,Z,z0,lb,lg,-,hn,hc,M,k0,k1,k2,-⟩:=h.open';have N:(0:Int)<(l.length:Int):=by omega
 cases I:bC s l with
 | false =>
  rw[I] at J;have H:=Fk h;clear h I;go_enter Tryz.func119,Tryz.ntmps119
  go_wp2_with fail
  refine J.out.mono ?_;rintro U O ⟨rfl,rfl⟩;go_wp2;go_ret;exact ⟨rfl,H.out,Fz _ _⟩
 | true =>
  have D:=dY I;have h2:1<l.length:=by have:=(h.endT.tail D).pos;rw[List.length_tail] at this;omega
  have V:=Fk (fun n a d=> @Ps.step w b g o c l h Z D n a d);have h3:(1:Int)≤(l.length:Int):=by omega
  have h4:(1:Int)<(c:Int):=by omega
  rw[I] at J;clear h I D;go_enter Tryz.func119,Tryz.ntmps119
  go_wp2_with fail
  refine J.out.mono ?_;rintro U O ⟨rfl,rfl⟩;go_wp2;go_ret;exact ⟨rfl,V.out _ _ _ (by omega) rfl (by omega)⟩
theorem bu (x:Int) {l:List Tk} {b:Nat} (w:World) (h:Ps w b l) :
  Calls Tryz.prog 44 #[FE (some ⟨b,0,none⟩),FH FI x] w fun e w'=>bS (x,(aS l).at_) e w'∧aa [] w w':=by
 obtain ⟨g,o,c,c0,V,U,O,-,J,I,D,Z,N,M,-⟩:=h.open';have H:(0:Int)<(l.length:Int):=by omega
 clear h;go_enter Tryz.func44,Tryz.ntmps44
 go_wp2;exact ⟨rfl,⟨_,rfl,FA _ _ _⟩,(Fz _ _).alloc _⟩
end
section
open Go.RowKit Go.BigFrame
attribute [local go_sem] ag ab ae af
theorem nM {s:Bs} {l r:List Tk} (h:aR s l= .ok r):bC s l=true∧r=l.tail:=by
 unfold aR at h;split at h
 ·rename_i D
  exact ⟨D,(Except.ok.inj h).symm⟩
 cases h
theorem xH {s:Bs} {l:List Tk} {x:Int×Int} (h:aR s l= .error x):bC s l=false∧x=(3,(aS l).at_):=by
 unfold aR at h;split at h
 ·cases h
 rename_i D;exact ⟨by simpa using D,(Except.error.inj h).symm⟩
theorem aT {s:Bs} {l r:List Tk} {b:Nat} (H:aR s l= .ok r) (w:World) (h:Ps w b l) :
  Calls Tryz.prog 79 #[FE (some ⟨b,0,none⟩),FC (bs s)] w fun e w'=>e=FF (.tuple #[])∧Ps w' b r∧aa [b] w w':=by
 obtain ⟨I,rfl⟩:=nM H;have D:=eT s w h;rw[I,if_pos rfl] at D;have N:=Fk D;clear h H I D;go_enter Tryz.func79,Tryz.ntmps79
 go_wp2_with fail
 refine N.out.mono ?_;rintro U O ⟨rfl,M,J⟩;go_wp2;go_end0
 exact ⟨rfl,M,J⟩
theorem cO {s:Bs} {l:List Tk} {b:Nat} {x:Int×Int} (J:aR s l= .error x) (w:World) (h:Ps w b l) :
  Calls Tryz.prog 79 #[FE (some ⟨b,0,none⟩),FC (bs s)] w fun e w'=>bS x e w'∧aa [b] w w':=by
 obtain ⟨I,rfl⟩:=xH J;have D:=eT s w h;rw[I,if_neg (by simp)] at D;have HT:=Fk D;clear h J I D;go_enter Tryz.func79,Tryz.ntmps79
 go_wp2_with fail
 refine HT.out.mono ?_;rintro ev V ⟨rfl,M,N⟩;have Z:=Fk M;clear M;go_wp2_with fail
 refine (bu 3 V Z.out).mono ?_;rintro ev w2 ⟨⟨U,rfl,O⟩,H⟩;exact ⟨rfl,⟨U,rfl,O⟩,N.trans H.of_nil⟩
theorem ja {l r:List Tk} {s:Bs} (h:aQ l= .ok (s,r)):(aS l).kind=1∧(aS l).text.length≤10∧s=(aS l).text∧r=l.tail:=by
 unfold aQ at h;split at h
 ·cases h
 rename_i I;split at h
 ·cases h
 rename_i J;injection h with h;injection h with D H;exact ⟨by simpa using I,by omega,D.symm,H.symm⟩
theorem xI {l:List Tk} {x:Int×Int} (h:aQ l= .error x):((aS l).kind≠1∧x=(3,(aS l).at_))∨((aS l).kind=1∧10<(aS l).text.length∧x=(4,(aS l).at_)):=by
 unfold aQ at h;split at h
 ·rename_i D
  exact .inl ⟨D,(Except.error.inj h).symm⟩
 rename_i D;split at h
 ·rename_i H
  exact .inr ⟨by simpa using D,H,(Except.error.inj h).symm⟩
 cases h
theorem Ps.more {W:World} {b:Nat} {l:List Tk} (h:Ps W b l) (D:(aS l).kind≠5):1<l.length:=by
 have:=(h.endT.tail D).pos;rw[List.length_tail] at this;omega
theorem bi {s:Bs} {l r:List Tk} {b:Nat} (J:aQ l= .ok (s,r)) (w:World) (h:Ps w b l) :
  Calls Tryz.prog 80 #[FE (some ⟨b,0,none⟩)] w fun e w'=>e=FF (FC (bs s))∧Ps w' b r∧aa [b] w w':=by
 obtain ⟨I,h2,rfl,rfl⟩:=ja J;have D:(aS l).kind≠5:=by rw[I];decide
 have h3:=h.more D;have HP:=Fk h;obtain ⟨g,o,c,Z,z0,lb,lg,-,hn,hc,N,V,k1,k2,-⟩:=h.open';rw[I] at V;have O:(0:Int)<(l.length:Int):=by omega
 have M:(1:Int)≤(l.length:Int):=by omega
 have h4:(1:Int)<(c:Int):=by omega
 have h5:¬(10:Int)<((aS l).text.length:Int):=by omega
 have U:=Fk (fun n a d=> @Ps.step w b g o c l h Z D n a d);clear h J I D;go_enter Tryz.func80,Tryz.ntmps80
 go_wp2;go_ret;have H:=U.out (l.length-1) ⟨g,o+3,none⟩ (c-1) rfl rfl rfl;exact ⟨rfl,H.1.keep ((Fz _ _).alloc _),H.2.alloc _⟩
theorem bN {l:List Tk} {b:Nat} {x:Int×Int} (M:aQ l= .error x) (w:World) (h:Ps w b l) :
  Calls Tryz.prog 80 #[FE (some ⟨b,0,none⟩)] w fun e w'=>bS x e w'∧aa [b] w w':=by
 have N:=Fk h;obtain ⟨g,o,c,c0,z0,lb,lg,-,hn,hc,V,k0,k1,k2,hl⟩:=h.open';have Z:(0:Int)<(l.length:Int):=by omega
 rcases xI M with ⟨H,rfl⟩|⟨H,U,rfl⟩
 ·have h1':((aS l).kind != 1)=true:=by rw[bne_iff_ne];exact H
  clear h M H;go_enter Tryz.func80,Tryz.ntmps80
  go_wp2_with fail
  refine (bu 3 _ (N.out.keep ((Fz _ _).alloc _))).mono ?_;rintro ev O ⟨⟨J,rfl,I⟩,D⟩;exact ⟨rfl,⟨J,rfl,I⟩,(((Fz _ _).alloc _).trans D).of_nil⟩
 rw[H] at k0;have h2':(10:Int)<((aS l).text.length:Int):=by omega
 clear h M H U;go_enter Tryz.func80,Tryz.ntmps80
 go_wp2_with fail
 refine (bu 4 _ (N.out.keep ((Fz _ _).alloc _))).mono ?_;rintro ev O ⟨⟨J,rfl,I⟩,D⟩;exact ⟨rfl,⟨J,rfl,I⟩,(((Fz _ _).alloc _).trans D).of_nil⟩
theorem kV:(Tryz.prog.info? 9).map (fun i=>(i.zero,i.size,i.bytes))=some (some (FC ⟨#[]⟩),1,16):=by kernel_rfl
theorem ri {W:World} {g base n size:Nat} {e:TypeId} {cs:Array Value} (h:ao W g e cs) (H:base≤g) (D:cs.size=n*size) (I:n≤maxLen):W.ownsRow base e size (FD (some ⟨g,0,none⟩) n n) n cs.toList :=
 ⟨by simpa using D,.inr ⟨g,n,cs,rfl,H,h,Fm _,I,D,by rw[←D];exact List.take_of_length_le (by simp)⟩⟩
def nN (b:Nat) (W:World):Nat:=match W.cell? ⟨b,0,none⟩ with
 | some (FD _ n _)=>n
 | _=>0
theorem Ps.left {W:World} {b:Nat} {l:List Tk} (h:Ps W b l):nN b W=l.length:=by
 obtain ⟨g,o,c,D,_⟩:=h;unfold nN;rw[D.cell 0];rfl
theorem gy {W W':World} {base b n size:Nat} {e:TypeId} {v:Value} {xs:List Value} {l:List Tk} (h:W.ownsRow base e size v n xs) (Z:Ps W b l) (M:aa [b] W W') (O:e≠111):W'.ownsRow base e size v n xs:=by
 obtain ⟨g,o,c,I,_⟩:=Z;refine aE h M (fun H J V=>?_);have hm':H=b:=by simpa using V
 subst hm';rcases h.2 with ⟨rfl,_⟩|⟨U,cap,cur,rfl,_,D,_⟩
 ·cases J
 have:U=H:=by simpa[Value.ownBlock] using J
 subst this;unfold ao at I;rw[I] at D;injection D with D;injection D with _ N;exact O N.symm
theorem Ps.grown {W W':World} {b:Nat} {l:List Tk} {D:Option Nat} {e:TypeId} (h:Ps W b l) (H:W.grownBy W' D) (M:∀ x,D=some x→dP W x e) (J:e≠111) (N:e≠114):Ps W' b l :=
 h.far (L:=D.toList) (aa.grown (Fz _ W) H (fun g H=> .inl (by rw[H];simp))) (fun x I=>⟨e,M x (by
  cases D with
  | none=>cases I
  | some y=>simp at I;rw[I]),J,N⟩)
theorem aL {W:World} {base n size:Nat} {e:TypeId} {v:Value} {xs:List Value} (h:W.ownsRow base e size v n xs):∀ x,v.ownBlock=some x→dP W x e:=fun x D=>by
 rcases h.2 with ⟨rfl,_⟩|⟨I,cap,cur,rfl,_,H,_⟩
 ·cases D
 have:I=x:=by simpa[Value.ownBlock] using D
 subst this;exact ⟨_,_,H⟩
theorem cG {W:World} {base D n size:Nat} {e:TypeId} {v:Value} {xs:List Value} (h:W.ownsRow D e size v n xs) (H:base≤D):W.ownsRow base e size v n xs:=by
 refine ⟨h.1,?_⟩;rcases h.2 with I|⟨g,cap,cur,J,M,r⟩
 ·exact .inl I
 exact .inr ⟨g,cap,cur,J,Ft H M,r⟩
def zQ (R:Except (Int×Int) (List Bs×List Tk)) (b base:Nat) (e:Ending) (w':World):Prop:=match R with
 | .ok (ns,r)=>∃ v,e=FF v∧w'.ownsRow base 9 1 v ns.length (strs ns)∧Ps w' b r
 | .error x=>bS x e w'
theorem lM {l:List Tk} {b:Nat} (w:World) (h:Ps w b l) (a0:l.length≤1000000) :
  Calls Tryz.prog 121 #[FE (some ⟨b,0,none⟩)] w fun e w'=>zQ (fh l) b w.heap.size e w'∧aa [b] w w':=by
 obtain ⟨i0,hi,br,bt,bm⟩:=info_parts kV;have HL:=Fk a0;obtain ⟨R,hR⟩:∃ R,fh l=R:=⟨_,rfl⟩
 rw[hR];unfold fh at hR;rcases I:aQ l with x|⟨s,r⟩
 ·rw[I] at hR
  have HR:Hid (R= .error x):=Fk hR.symm;have H:=Fk (bN I w h);clear hR I h a0;go_enter Tryz.func121,Tryz.ntmps121
  go_wp2_with fail
  refine H.out.mono ?_;rintro ev w2 ⟨⟨gi,rfl,hb⟩,N⟩;exact ⟨rfl,by rw[HR.out];exact ⟨gi,rfl,hb⟩,N⟩
 rw[I] at hR;have hR':dU r.length r [s]=R:=hR;have a3:r.length<l.length:=by
  obtain ⟨_,_,_,e⟩:=ja I;have:=h.endT.pos;rw[e,List.length_tail];omega
 have a4:=Fk a3;have HR:=Fk hR';have H:=Fk (bi I w h);clear hR hR' I h a0 a3;go_enter Tryz.func121,Tryz.ntmps121
 go_wp2_with fail
 refine H.out.mono ?_;rintro ev w2 ⟨rfl,a2,N⟩;have be:=Fk (a2.keep ((Fz _ _).alloc (FG #[FC (bs s)] 9)));have a9:=Fk (N.alloc (FG #[FC (bs s)] 9));have a5:Hid ((w2.alloc (FG #[FC (bs s)] 9)).ownsRow w.heap.size 9 1 (FD (some ⟨w2.heap.size,0,none⟩) 1 1) [s].length (strs [s])):=Fk (ri (FA w2 9 #[FC (bs s)]) N.size rfl (by decide));clear a2 N;go_wp2_with fail
 go_loopw [3] (fun v wr=>∃ (acc:List Bs) (q:List Tk) (n:Nat),Hid (dU n q acc=R)∧q.length≤n∧acc.length+q.length≤l.length∧Hid (Ps wr b q)∧Hid (wr.ownsRow w.heap.size 9 1 v acc.length (strs acc))∧Hid (aa [b] w wr)) (fun _ wr=>nN b wr)
 case atStart=>exact ⟨[s],r,r.length,HR,Fm _,by have:=a4.out;simp;omega,be,a5,a9⟩
 clear HR a4 be a5 a9;obtain ⟨acc,q,n,HR,bZ,bv,HP,HO,HK⟩:=hrel;have bX:=HP.out.endT.pos;have HM:=Fk HP.out.left;have HT:=eT [44] wr HP.out
 cases hs:bC [44] q with
 | false =>
  rw[hs] at HT;have av:=Fk HT;have U:Hid (R= .ok (acc,q)):=Fk (by
   rw[←HR.out];obtain ⟨m,rfl⟩:∃ m,n=m+1:=⟨n-1,by omega⟩
   unfold dU;rw[hs];rfl)
  clear HT hs;go_wp2_with fail
  refine av.out.mono ?_;rintro ev w3 ⟨rfl,ad,M⟩;have Z:=Fk (gy HO.out HP.out M (by decide));go_wp2;go_ret;exact ⟨by rw[U.out];exact ⟨_,rfl,Z.out,ad⟩,HK.out.trans M⟩
 | true =>
  rw[hs,if_pos rfl] at HT;have av:=Fk HT;have b0:=HP.out.more (dY hs);have HS:=Fk hs;clear HT hs;go_wp2_with fail
  refine av.out.mono ?_;rintro ev w3 ⟨rfl,ad,M⟩;have Z:=Fk (gy HO.out HP.out M (by decide));have V:=Fk ad;have a1:=Fk (HK.out.trans M);clear ad M av;rcases I:aQ q.tail with x|⟨s',r'⟩
  ·have U:Hid (R= .error x):=Fk (by
    rw[←HR.out];obtain ⟨m,rfl⟩:∃ m,n=m+1:=⟨n-1,by omega⟩
    unfold dU;rw[if_pos HS.out,I];rfl)
   have H:=Fk (bN I w3 V.out);clear I;go_wp2_with fail
   refine H.out.mono ?_;rintro ev w4 ⟨⟨gi,rfl,hb⟩,O⟩;exact ⟨rfl,by rw[U.out];exact ⟨gi,rfl,hb⟩,a1.out.trans O⟩
  have hr':r'.length+2≤q.length:=by
   obtain ⟨_,_,_,e⟩:=ja I;have:=V.out.endT.pos;rw[e,List.length_tail,List.length_tail];rw[List.length_tail] at this;omega
  have U:Hid (dU (n-1) r' (acc++[s'])=R):=Fk (by
   rw[←HR.out];obtain ⟨m,rfl⟩:∃ m,n=m+1:=⟨n-1,by omega⟩
   conv=>rhs;unfold dU
   rw[if_pos HS.out,I];rfl)
  have H:=Fk (bi I w3 V.out);have a6:=Fk (show acc.length+1≤maxLen∧(acc.length+1)*16≤140737488355328 by have:=HL.out;simp only[maxLen];omega);clear I;go_wp2_with fail
  refine H.out.mono ?_;rintro ev w4 ⟨rfl,a8,O⟩;have aA:=Fk (gy Z.out V.out O (by decide));have bo:=Fk (a8.keep ((Fz _ _).alloc (FG #[FC (bs s')] 9)));have bb:=Fk (a1.out.trans O);have bj:=Fk (show w.heap.size≤w4.heap.size+1 from Nat.le_succ_of_le bb.out.size);clear a8 O H Z V a1;go_wp2_with (at_builtin;refine wpList_append_lies _ rfl _ _ 44 rfl _ 9 i0 _ 1 16 Tryz.underlying44 hi br bt bm rfl (by decide) _ acc.length (strs acc) rfl (aA.out.alloc _) ⟨w4.heap.size,0,none⟩ 1 1 [FC (bs s')] rfl rfl (Fx (heap_alloc_new _ _)) (by simp[Value.oneCell']) (by decide) a6.out.1 a6.out.2 (by simp;exact bj.out) _ rfl ?_;intro gw bz w8 J D ba bc)
  have bk:=Fk ((bb.out.alloc _).grown D (fun g hg=> .inr (aA.out.lt g hg).1));have a7:=Fk (bo.out.grown D (fun x hx=>(aL aA.out x hx).keep ((Fz [] _).alloc _) (by simp)) (by decide) (by decide));rw[←fB] at J;have bq:Hid (w8.ownsRow w.heap.size 9 1 _ (acc++[s']).length (strs (acc++[s']))):=Fk (by rw[Fo];exact J);clear J D ba bc;go_wp2;go_roundw
  case rel=>exact ⟨acc++[s'],r',n-1,U,by omega,by simp;omega,a7,bq,bk⟩
  case measure=>rw[a7.out.left,HM.out];omega
theorem nO {l:List Tk}:∀ {ms:List Bs} {k:Nat} (h:k<ms.length),(∀ j (J:j<k),bC (ms[j]'(by omega)) l=false)→bC ms[k] l=true→ga l ms=some k
 | [],_,h,_,_=>absurd h (by simp)
 | m::ms,0,_,_,h=>by unfold ga;exact if_pos h
 | m::ms,k+1,h,D,I=>by
  unfold ga;have H:=D 0 (by omega);rw[if_neg (by simpa using H),nO (ms:=ms) (k:=k) (by simpa using h) (fun j J=>D (j+1) (by omega)) (by simpa using I)];rfl
theorem nP {l:List Tk}:∀ {ms:List Bs},(∀ j (h:j<ms.length),bC (ms[j]'h) l=false)→ga l ms=none
 | [],_=>rfl
 | m::ms,D=>by
  unfold ga;have H:=D 0 (by simp);rw[if_neg (by simpa using H),nP (ms:=ms) (fun j h=>D (j+1) (by simpa using h))];rfl
def kW (l:List Tk) (ms:List Bs):Int:=match ga l ms with
 | some k=>(k:Int)
 | none=> -1
theorem sG {l:List Tk} {b:Nat} (ms:List Bs) (A:Option Addr) (c:Nat) (w:World) (h:Ps w b l) (U:Rd w [] 1 A ms.length (strs ms)) (N:ms.length≤4294967296) :
  Calls Tryz.prog 85 #[FD A ms.length c,.func (.func 76) #[FE (some ⟨b,0,none⟩)] #[]] w fun e w'=>e=FF (FH FI (kW l ms))∧w=w':=by
 have HR:=Fk U;have HP:=Fk h;clear U h;go_enter Tryz.func85,Tryz.ntmps85
 go_wp2;go_loop [8] (fun i=>∃ n:Nat,n≤ms.length∧i=FH FI n∧Hid (∀ j (H:j<n) (N:j<ms.length),bC ms[j] l=false)) (fun i=>ms.length-(intOf i).toNat)
 case atStart=>exact ⟨0,Fu _,rfl,fun j H=>absurd H (by omega)⟩
 obtain ⟨n,hn,rfl,I⟩:=hrel;by_cases M:n<ms.length
 ·obtain ⟨g,o,rfl,_,hg,V⟩:=HR.out.open' (by omega) (by omega)
  have d1:=V n _ (cw ms n M);have HH:=kU ms[n] w HP.out;generalize Z:ms[n]=x at *;have O:=Fk Z;have HH':=Fk HH;clear HH V Z
  cases J:bC x l with
  | true =>
   have D:kW l ms=(n:Int):=by
    unfold kW;rw[nO M (fun j H=>I j H (by omega)) (by rw[O.out];exact J)]
   rw[J] at HH';have HQ:=Fk D;clear D J;go_wp2_with fail
   refine HH'.out.mono ?_;rintro e W2 ⟨rfl,rfl⟩;go_wp2;go_ret;exact ⟨by rw[HQ.out];rfl,rfl⟩
  | false =>
   have hno':Hid (∀ j (H:j<n+1) (N:j<ms.length),bC ms[j] l=false):=fun j H N=>by
    by_cases h:j<n
    ·exact I j h N
    obtain rfl:j=n:=by omega
    rw[O.out];exact J
   rw[J] at HH';clear J;go_wp2_with fail
   refine HH'.out.mono ?_;rintro e W2 ⟨rfl,rfl⟩;go_wp2;go_round
   case rel=>exact ⟨n+1,by omega,by go_num,hno'⟩
   case measure=>simp[intOf];omega
 have D:Hid (kW l ms= -1):=by
  unfold kW;rw[nP (fun j H=>I j (by omega) H)];rfl
 go_wp2;go_ret;exact ⟨by rw[D.out];rfl,rfl⟩
theorem qk {l:List Tk}:∀ {ms:List Bs} {k:Nat},ga l ms=some k→∃ h:k<ms.length,bC ms[k] l=true
 | [],_,h=>by cases h
 | m::ms,k,h=>by
  unfold ga at h;split at h
  ·rename_i D
   injection h with h;subst h;exact ⟨by simp,D⟩
  obtain ⟨j,H,rfl⟩:=Option.map_eq_some_iff.1 h;obtain ⟨J,I⟩:=qk H;exact ⟨by simpa using J,by simpa using I⟩
theorem nk {ms:List Bs} {l r:List Tk} {s:Bs} (h:iu ms l= .ok (s,r)):∃ k,ga l ms=some k∧∃ N:k<ms.length,s=ms[k]∧bC ms[k] l=true∧r=l.tail:=by
 unfold iu at h
 cases D:ga l ms with
 | none=>rw[D] at h;cases h
 | some k =>
  rw[D] at h;obtain ⟨H,M⟩:=qk D;injection h with h;injection h with I J;refine ⟨k,rfl,H,?_,M,J.symm⟩;rw[←I,Fy,Fp H];rfl
theorem nl {ms:List Bs} {l r:List Tk} {s:Bs} {b:Nat} (V:iu ms l= .ok (s,r)) (A:Option Addr) (c:Nat) (w:World) (h:Ps w b l) (M:Rd w [b] 1 A ms.length (strs ms)) (hl:ms.length≤4294967296) :
  Calls Tryz.prog 120 #[FE (some ⟨b,0,none⟩),FD A ms.length c] w fun e w'=>e=FF (FC (bs s))∧Ps w' b r∧aa [b] w w':=by
 obtain ⟨k,U,H,rfl,hs,rfl⟩:=nk V;have J:=sG ms A c w h (M.move (by simp)) hl;have e:kW l ms=(k:Int):=by unfold kW;rw[U]
 rw[e] at J;have HM:=Fk (aT (s:=ms[k]) (r:=l.tail) (by unfold aR;rw[if_pos hs]) w h);obtain ⟨g,o,rfl,D,hg,Z⟩:=M.open' (by omega) (by omega);have d1:=Z k _ (cw ms k H);have I:=Fk J;have aA:(k:Int)<(ms.length:Int):=by omega
 have N:g≠b:=by simpa using D
 generalize ms[k]=x at *;clear V U hs J e Z M h D;have ad:∀ (O:Fn) (first cap:Array Value) (w:World),(Instr.makeFunc O first cap).run Tryz.prog w= .ok (.func O first cap) w:=fun _ _ _ _=>rfl
 go_enter Tryz.func120,Tryz.ntmps120
 go_wp2_with fail
 refine I.out.mono ?_;rintro ev w1 ⟨rfl,rfl⟩;go_wp2_with fail
 refine HM.out.mono ?_;rintro ev w2 ⟨rfl,hp,H⟩;have d2:=H.cell_of d1 (by simpa using N);have av:=Fq _ _ d2;go_wp2;go_ret;exact ⟨rfl,hp,H⟩
theorem zR {ms:List Bs} {l:List Tk} {x:Int×Int} (h:iu ms l= .error x):ga l ms=none∧x=(3,(aS l).at_):=by
 unfold iu at h
 cases D:ga l ms with
 | none =>
  rw[D] at h;exact ⟨rfl,(Except.error.inj h).symm⟩
 | some k=>rw[D] at h;cases h
theorem rj {ms:List Bs} {l:List Tk} {b:Nat} {x:Int×Int} (N:iu ms l= .error x) (A:Option Addr) (c:Nat) (w:World) (h:Ps w b l) (O:Rd w [b] 1 A ms.length (strs ms)) (hl:ms.length≤4294967296) :
  Calls Tryz.prog 120 #[FE (some ⟨b,0,none⟩),FD A ms.length c] w fun e w'=>bS x e w'∧aa [b] w w':=by
 obtain ⟨M,rfl⟩:=zR N;have H:=sG ms A c w h (O.move (by simp)) hl;have e:kW l ms= -1:=by unfold kW;rw[M]
 rw[e] at H;have HF:=Fk (bu 3 w h);have D:=Fk H;clear N M H e O h;have Z:∀ (J:Fn) (first cap:Array Value) (w:World),(Instr.makeFunc J first cap).run Tryz.prog w= .ok (.func J first cap) w:=fun _ _ _ _=>rfl
 go_enter Tryz.func120,Tryz.ntmps120
 go_wp2_with fail
 refine D.out.mono ?_;rintro ev w1 ⟨rfl,rfl⟩;go_wp2_with fail
 refine HF.out.mono ?_;rintro ev w2 ⟨⟨V,rfl,U⟩,I⟩;exact ⟨rfl,⟨V,rfl,U⟩,I.of_nil⟩
end
section
open Go.RowKit
structure jW (w:World):Prop where
 p10:Lib.TabIs Tryz.prog w "internal/strconv.uint64pow10" .u64 Lib.pow10Tab
 esyn:∃ t p,w.cell? ⟨6,0,none⟩=some (.iface t p)
 erng:∃ t p,w.cell? ⟨7,0,none⟩=some (.iface t p)
 marks:∀ j (h:j<aJ.length),w.cell? ⟨3,j,none⟩=some (FC (bs aJ[j]))
 words:∀ j (h:j<eF.length),w.cell? ⟨4,j,none⟩=some (FC (bs eF[j]))
 wty:dP w 4 232
theorem jW.quiet {w w':World} (h:jW w) (D:aa [] w w'):jW w' :=
  ⟨iW h.p10 D,by obtain ⟨t,p,H⟩:=h.esyn;exact ⟨t,p,D.cell_of H (by simp)⟩,by obtain ⟨t,p,H⟩:=h.erng;exact ⟨t,p,D.cell_of H (by simp)⟩,
   fun j I=>D.cell_of (h.marks j I) (by simp),fun j I=>D.cell_of (h.words j I) (by simp),h.wty.keep D (by simp)⟩
theorem pT (w:World) (o:Obj):(w.alloc o).heap.size=w.heap.size+1:=Array.size_push _
def FB (w:World) (h:Nat):Prop:=∃ w0,jW w0∧aa [] w0 w∧w0.heap.size≤h
theorem FB.env {w:World} {D:Nat} (h:FB w D):jW w:=by
 obtain ⟨w0,I,H,_⟩:=h;exact I.quiet H
theorem FB.go {w w':World} {D:Nat} {L:List Nat} (h:FB w D) (I:aa L w w') (O:∀ x∈L,D≤x):FB w' D:=by
 obtain ⟨w0,N,M,H⟩:=h;exact ⟨w0,N,M.trans' I (fun x J U=>by have:=O x J;omega),H⟩
theorem FB.quiet {w w':World} {D:Nat} (h:FB w D) (H:aa [] w w'):FB w' D:=h.go H (fun x I=>by cases I)
theorem FB.one {w w':World} {D b:Nat} (h:FB w D) (J:D≤b) (H:aa [b] w w'):FB w' D:=h.go H (fun x I=>by simp at I;omega)
theorem je {l:Bs} {n:Int} (h:Lib.atoiAll l= .ok n) (hd:∀ c∈l,iZ c=true):0≤n∧n≤9223372036854775807:=by
 have I:=rl h;unfold dX at I;refine ⟨?_,I.2⟩;unfold Lib.atoiAll at h;split at h
 ·cases h
 rename_i c r;have H:=hd c (List.mem_cons_self ..);have D:¬c.toNat=45:=by
  unfold iZ at H;simp only[Bool.and_eq_true,decide_eq_true_eq] at H;omega
 simp only at h;split at h
 ·cases h
 ·cases h
 split at h
 ·cases h
 split at h
 ·cases h
 injection h with h;first
  | (rw[if_neg D] at h;omega)
  | omega
end
section
open Go.RowKit Go.BigFrame
attribute [local go_sem] ag ab ae af
def rm (R:Except (Int×Int) (Vl×List Tk)) (b:Nat) (e:Ending) (w':World):Prop:=match R with
 | .ok (v,r)=>e=FF (fV v)∧Ps w' b r
 | .error x=>bS x e w'
theorem bT {w w':World} {b:Nat} {l:List Tk} (h:Ps w b l) (H:aa [b] w w') {g:Nat} {t:TypeId} {cs:Array Value} (D:ao w g t cs) (J:t≠111):ao w' g t cs :=
 D.keep H (fun I=>by
  have:g=b:=by simpa using I
  subst this;exact D.ty.ne h.ty J rfl)
theorem Ps.set {W:World} {b g i:Nat} {l:List Tk} {t:TypeId} {cs:Array Value} (h:Ps W b l) (H:ao W g t cs) (D:t≠111) (J:t≠114) (u:Value):Ps (W.setCell ⟨g,i,none⟩ u) b l :=
 h.far (L:=[g]) (aa.setCell (Fz _ _) (.inl (by simp)) _) (fun x I=>⟨t,by rw[List.mem_singleton.1 I];exact H.ty,D,J⟩)
theorem Ps.setNew {W:World} {b g i:Nat} {l:List Tk} (h:Ps W b l) (Z:b<g) (u:Value):Ps (W.setCell ⟨g,i,none⟩ u) b l:=by
 obtain ⟨J,o,c,U,I,V,h4,O,h6,h7⟩:=h;have D:aa [g] W (W.setCell ⟨g,i,none⟩ u):=aa.setCell (Fz _ _) (.inl (by simp)) _;have H:=I.2;have N:b∉[g]:=by simp;omega
 have M:J∉[g]:=by simp;omega
 exact ⟨J,o,c,U.keep D N,⟨I.1.keep D M,H⟩,V,h4,O,h6,fun j u hu=>D.cell_of (h7 j u hu) M⟩
theorem nR {s:Bs} {n:Int} (I:Lib.atoiAll s= .ok n) (M:s.length≤1000000) (W:World) (H:jW W):Calls Tryz.prog 83 #[FC (bs s)] W fun e w'=>e=FF (.tuple #[FH FI n,.nilIface])∧aa [] W w':=by
 rcases nQ s (by omega) W H.esyn H.erng with ⟨v,h,_,J⟩|⟨D,_⟩
 ·rw[I] at h
  injection h with h;subst h;exact J
 exact absurd I (D n)
theorem lN {s:Bs} (I:∀ n,Lib.atoiAll s≠ .ok n) (J:s.length≤1000000) (W:World) (h:jW W):Calls Tryz.prog 83 #[FC (bs s)] W fun e w'=>(∃ n t p,e=FF (.tuple #[FH FI n,.iface t p]))∧aa [] W w':=by
 rcases nQ s (by omega) W h.esyn h.erng with ⟨v,H,_,D⟩|⟨_,D⟩
 ·exact absurd H (I v)
 exact D
theorem xJ {q:List Tk} {b lo:Nat} (w:World) (hE:FB w lo) (dr:lo≤b) (h:Ps w b q) (hs:bC [45] q=false) :
  Calls Tryz.prog 176 #[FE (some ⟨b,0,none⟩)] w fun e w'=>rm (eS false q) b e w'∧aa [b] w w':=by
 obtain ⟨R,hR⟩:∃ R,eS false q=R:=⟨_,rfl⟩
 rw[hR];have HV:=Fk hR;have HE:=Fk hE;obtain ⟨kd,cd⟩:∃ kd,(aS q).kind=kd:=⟨_,rfl⟩
 obtain ⟨tx,cu⟩:∃ tx,(aS q).text=tx:=⟨_,rfl⟩
 obtain ⟨a7,ce⟩:∃ a7,(aS q).at_=a7:=⟨_,rfl⟩
 have av:=Fk cd;have bm:=Fk cu;have c3:=Fk ce;clear hR hE;obtain ⟨g,o,c,c0,z0,lb,lg,-,hn,hc,ca,k0,k1,k2,hw⟩:=h.open';rw[cd] at k0;rw[cu] at k1;rw[ce] at k2;clear hw;have cn:(0:Int)<(q.length:Int):=by omega
 have H:=Fk h;have c8:=Fk hs;skip
 clear h cd cu ce hs;have HT:Hid (∀ W,aa [] w W→Calls Tryz.prog 119 #[FE (some ⟨b,0,none⟩),FC (bs [45])] W fun e w'=>e=FF (.bool false)∧Ps w' b q∧aa [b] W w'):=Fk (fun W x=>by
  have:=eT [45] W (H.out.keep x);rw[c8.out] at this;rw[if_neg (by simp)] at this;exact this)
 go_enter Tryz.func176,Tryz.ntmps176
 go_wp2_with fail
 refine (HT.out _ (((Fz [] w).alloc _).alloc _)).mono ?_;rintro ev w1 ⟨rfl,ci,bv⟩;have cy:=(FA w 46 #[FH FI 0,FH FI 0,FC ⟨#[]⟩]).alloc (FG #[FH FI kd,FC (bs tx),FH FI a7] 114);have cj:=FA (w.alloc (FG #[FH FI 0,FH FI 0,FC ⟨#[]⟩] 46)) 114 #[FH FI kd,FC (bs tx),FH FI a7];rw[pT] at cj;have hP:=H.out.keep (((Fz [] w).alloc (FG #[FH FI 0,FH FI 0,FC ⟨#[]⟩] 46)).alloc (FG #[FH FI kd,FC (bs tx),FH FI a7] 114));have co:=Fk (bT hP bv cy (by decide));have cv:=Fk (bT hP bv cj (by decide));have c4:=Fk ((((Fz [] w).alloc (FG #[FH FI 0,FH FI 0,FC ⟨#[]⟩] 46)).alloc (FG #[FH FI kd,FC (bs tx),FH FI a7] 114)).of_nil.trans bv);have cr:=Fk ci;have a5:=Fk (Fm w.heap.size);have bc:Hid (w.heap.size≠b):=Fk (by omega);have cg:Hid (w.heap.size+1≠b∧w.heap.size+2≤w1.heap.size∧b<w.heap.size):=Fk ⟨by omega,by have:=bv.size;rw[pT,pT] at this;omega,by omega⟩;clear cy cj hP ci bv c0 z0 lb lg hn hc ca k0 k1 k2 cn;obtain ⟨M,hM⟩:∃ M,w.heap.size=M:=⟨_,rfl⟩
 rw[hM] at co cv bc cg ⊢;have a5:Hid (w.heap.size≤M):=Fk (by omega);clear hM;obtain ⟨g1,o1,c1,c0,z0,lb,lg,-,hn,hc,ca,k0,k1,k2,hw⟩:=cr.out.open';rw[av.out] at k0;rw[bm.out] at k1;rw[c3.out] at k2;obtain ⟨cq,b0,b4⟩:=hw;rw[bm.out] at cq b0 b4;rw[av.out] at b0 b4;have b7:=Fk b0;have bX:=Fk b4;clear b0 b4;have cn:(0:Int)<(q.length:Int):=by omega
 obtain ⟨wt,d8⟩:∃ wt:World,wt=w1:=⟨_,rfl⟩
 subst d8;have b3:=cr;have ba:=c4;have b9:=co;have b1:=cv;have c7:=Fk (HE.out.one dr ba.out);have c6:Hid (wt.heap.size≠b∧M≠wt.heap.size∧w.heap.size≤wt.heap.size):=Fk ⟨by have:=cg.out;omega,by have:=cg.out;omega,ba.out.size⟩;have t0:wt.cell? ⟨M+1,0,none⟩=some (FH FI kd):=b1.out.cell 0;have t1:wt.cell? ⟨M+1,1,none⟩=some (FC (bs tx)):=b1.out.cell 1;have t2:wt.cell? ⟨M+1,2,none⟩=some (FH FI a7):=b1.out.cell 2;have el:=b1.out.lt;clear cr c4 co cv c0 z0 lb lg hn hc ca k0 k1 k2 cn;by_cases N:kd=3
 ·subst N
  have d7:Hid (2≤tx.length):=Fk (bX.out rfl);clear b7 bX;have bj:Hid (kr q ⟨2,0,jV tx⟩=R):=Fk (by rw[←HV.out];unfold eS;rw[av.out,bm.out];rfl);have d2:2≤tx.length:=d7.out;have d1:∀ W,(Instr.slice 9 (FC (bs tx)) (some (FH FI 1)) (some (FH FI ((tx.length:Int)-1))) none).run Tryz.prog W= .ok (FC (bs (jV tx))) W:=fun W=>by
   have:=jG (P:=Tryz.prog) Tryz.underlying9 tx 1 (tx.length-1) (by omega) (by omega) W;rwa [show ((tx.length-1:Nat):Int)=(tx.length:Int)-1 by omega] at this
  have a3:Hid (wt.heap.size≠b∧M≠wt.heap.size∧w.heap.size≤wt.heap.size):=c6;have ct:=Fk a3.out.1;have bb:=Fk a3.out.2.1;have b5:=Fk a3.out.2.2;go_upto_region 17 with (fail)
  have O:=Fk (FA wt 46 #[FH FI 2,FH FI (0),FC (bs (jV tx))]);have a2:=Fk (b3.out.keep ((Fz _ _).alloc (FG #[FH FI 2,FH FI (0),FC (bs (jV tx))] 46)));have a6:=Fk (ba.out.alloc (FG #[FH FI 2,FH FI (0),FC (bs (jV tx))] 46));have bk:=Fk (b9.out.alloc (FG #[FH FI 2,FH FI (0),FC (bs (jV tx))] 46));clear d2 d1;generalize wt.heap.size=vb at *;obtain ⟨w4,bq⟩:∃ x,wt.alloc (FG #[FH FI 2,FH FI (0),FC (bs (jV tx))] 46)=x:=⟨_,rfl⟩
  rw[bq] at O a2 a6 bk ⊢;clear bq;have v0:w4.cell? ⟨vb,0,none⟩=some (FH FI 2):=O.out.cell 0;have v1:w4.cell? ⟨vb,1,none⟩=some (FH FI (0)):=O.out.cell 1;have v2:w4.cell? ⟨vb,2,none⟩=some (FC (bs (jV tx))):=O.out.cell 2;have lv:=O.out.lt;obtain ⟨rv,a0⟩:∃ rv,eO (⟨2,0,(jV tx)⟩:Vl)=rv:=⟨_,rfl⟩
  have br:Hid (Calls Tryz.prog 28 #[.agg #[FH FI 2,FH FI (0),FC (bs (jV tx))]] w4 fun e w'=>e=FF (.bool rv)∧aa [] w4 w'):=Fk (by have:=cp (⟨2,0,(jV tx)⟩:Vl) w4;rw[a0] at this;exact this);have HF:=Fk a0;clear a0
  cases rv with
  | false =>
   have HX:Hid (R= .error (4,(aS q).at_)):=Fk (by rw[←bj.out];unfold kr;rw[HF.out];rfl);go_wp2_with fail
   refine br.out.mono ?_;rintro ev w5 ⟨rfl,I⟩;have bo:=Fk (a2.out.keep I);have a4:=Fk (a6.out.trans I.of_nil);clear I;go_wp2_with fail
   refine (bu 4 w5 bo.out).mono ?_;rintro ev w6 ⟨⟨gi,rfl,hb⟩,a8⟩;exact ⟨rfl,by rw[HX.out];exact ⟨gi,rfl,hb⟩,a4.out.trans a8.of_nil⟩
  | true =>
   have HX:Hid (R= .ok ((⟨2,0,(jV tx)⟩:Vl),q.tail)):=Fk (by rw[←bj.out];unfold kr;rw[HF.out];rfl);have aA:(aS q).kind≠5:=by rw[av.out];decide
   have ad:=Fk aA;clear aA;go_wp2_with fail
   refine br.out.mono ?_;rintro ev w5 ⟨rfl,I⟩;have U:=a2.out.keep I;have bo:=Fk U;have a4:=Fk (a6.out.trans I.of_nil);have D:=O.out.keep I (by simp);have J:=Fk (bk.out.keep I (by simp));have hmore:=U.more ad.out;have b6:(1:Int)≤(q.length:Int):=by omega
   obtain ⟨g5,o5,c5,p0,pz,pb,pg,d5,pn,pc,dt,-,-,-,-⟩:=U.open';have d4:(1:Int)<(c5:Int):=by omega
   have ch:=Fk (fun n a d=> @Ps.step w5 b g5 o5 c5 q U p0 ad.out n a d);have cD:=Fk D;have x0:w5.cell? ⟨vb,0,none⟩=some (FH FI 2):=D.cell 0;have x1:w5.cell? ⟨vb,1,none⟩=some (FH FI (0)):=D.cell 1;have x2:w5.cell? ⟨vb,2,none⟩=some (FC (bs (jV tx))):=D.cell 2;have d3:=D.lt;have r0:w5.cell? ⟨M,0,none⟩=some (FH FI 0):=J.out.cell 0;have r1:w5.cell? ⟨M,1,none⟩=some (FH FI 0):=J.out.cell 1;have r2:w5.cell? ⟨M,2,none⟩=some (FC ⟨#[]⟩):=J.out.cell 2;have c9:=J.out.frozen 0;have d0:=J.out.frozen 1;have dz:=J.out.frozen 2;have lr:=J.out.lt;have ds:=ct.out;have dq:=bc.out;have dv:=bb.out;clear U I D v0 v1 v2 lv hmore;go_wp2;have be:=ch.out (q.length-1) ⟨g5,o5+3,none⟩ (c5-1) rfl rfl rfl;have V:=J.out.far (p:=⟨b,0,none⟩) bc.out (FD (some ⟨g5,o5+3,none⟩) (q.length-1) (c5-1));have a1:=((V.set 0 (FH FI 2)).set 1 (FH FI (0))).set 2 (FC (bs (jV tx)));have y0:=a1.cell 0;have y1:=a1.cell 1;have y2:=a1.cell 2;refine bodyPost_ret (v:= .agg #[FH FI 2,FH FI (0),FC (bs (jV tx))]) (by simp[results,Tryz.results176,go_sem,y0,y1,y2]) rfl ⟨?_,?_⟩
   ·rw[HX.out]
    exact ⟨rfl,((be.1.set V (by decide) (by decide) _).set (V.set 0 _) (by decide) (by decide) _).set ((V.set 0 _).set 1 _) (by decide) (by decide) _⟩
   exact (((a4.out.trans be.2).setCell (.inr a5.out) _).setCell (.inr a5.out) _).setCell (.inr a5.out) _
 by_cases bZ:kd=2
 ·subst bZ
  have d6:Hid (∀ c∈tx,iZ c=true):=Fk (b7.out rfl);clear b7 bX N;rcases ha:Lib.atoiAll tx with n|_|_
  ·have bt:=je ha d6.out
   have bj:Hid (kr q ⟨1,n,[]⟩=R):=Fk (by rw[←HV.out];unfold eS;rw[av.out,bm.out,ha];simp);have cm:=Fk (fun W hW=>nR ha cq W hW);have ci:=bt.1;have eb:=bt.2;have a3:Hid (wt.heap.size≠b∧M≠wt.heap.size∧w.heap.size≤wt.heap.size):=c6;clear ha bt;go_wp2_with fail
   refine (cm.out _ (c7.out.quiet ((Fz _ _).alloc _)).env).mono ?_;rintro ev w3 ⟨rfl,N⟩;have Z:=(FA wt 46 #[FH FI 2,FH FI 0,FC ⟨#[]⟩]).keep N (by simp);generalize cz:wt.heap.size=vb at *;have HQ:=Fk cz;clear cz;have z0':=Z.frozen 0;have z1':=Z.frozen 1;have z2':=Z.frozen 2;have v0:w3.cell? ⟨vb,0,none⟩=some (FH FI 2):=Z.cell 0;have v1:w3.cell? ⟨vb,1,none⟩=some (FH FI 0):=Z.cell 1;have v2:w3.cell? ⟨vb,2,none⟩=some (FC ⟨#[]⟩):=Z.cell 2;have lv:=Z.lt;have cx:=Fk ((ba.out.alloc (FG #[FH FI 2,FH FI 0,FC ⟨#[]⟩] 46)).trans N.of_nil);have bz:=Fk ((b3.out.keep ((Fz _ _).alloc (FG #[FH FI 2,FH FI 0,FC ⟨#[]⟩] 46))).keep N);have dB:=Fk (((b9.out.alloc (FG #[FH FI 2,FH FI 0,FC ⟨#[]⟩] 46))).keep N (by simp));have a9:=Fk Z;have ct:=Fk a3.out.1;have bb:=Fk a3.out.2.1;have b5:=Fk a3.out.2.2;clear Z N;go_upto_region 17 with (fail)
   have b8:=(((a9.out.set 0 (FH FI 1)).set 1 (FH FI (n))).set 2 (FC ⟨#[]⟩)).congr (cs':= #[FH FI 1,FH FI (n),FC (bs [])]) rfl;have O:=Fk b8;have a2:=Fk (((bz.out.set a9.out (i:=0) (by decide) (by decide) (FH FI 1)).set (a9.out.set 0 _) (i:=1) (by decide) (by decide) (FH FI (n))).set ((a9.out.set 0 _).set 1 _) (i:=2) (by decide) (by decide) (FC ⟨#[]⟩));have a6:=Fk (((cx.out.setCell (p:=⟨vb,0,none⟩) (.inr b5.out) (FH FI 1)).setCell (p:=⟨vb,1,none⟩) (.inr b5.out) (FH FI (n))).setCell (p:=⟨vb,2,none⟩) (.inr b5.out) (FC ⟨#[]⟩));have bk:=Fk (((dB.out.far (p:=⟨vb,0,none⟩) bb.out (FH FI 1)).far (p:=⟨vb,1,none⟩) bb.out (FH FI (n))).far (p:=⟨vb,2,none⟩) bb.out (FC ⟨#[]⟩));clear b8 z0' z1' z2' v0 v1 v2 lv;obtain ⟨w4,bq⟩:∃ x,((w3.setCell ⟨vb,0,none⟩ (FH FI 1)).setCell ⟨vb,1,none⟩ (FH FI (n))).setCell ⟨vb,2,none⟩ (FC ⟨#[]⟩)=x:=⟨_,rfl⟩
   rw[bq] at O a2 a6 bk ⊢;clear bq;have v0:w4.cell? ⟨vb,0,none⟩=some (FH FI 1):=O.out.cell 0;have v1:w4.cell? ⟨vb,1,none⟩=some (FH FI (n)):=O.out.cell 1;have v2:w4.cell? ⟨vb,2,none⟩=some (FC (bs [])):=O.out.cell 2;have lv:=O.out.lt;obtain ⟨rv,a0⟩:∃ rv,eO (⟨1,n,[]⟩:Vl)=rv:=⟨_,rfl⟩
   have br:Hid (Calls Tryz.prog 28 #[.agg #[FH FI 1,FH FI (n),FC (bs [])]] w4 fun e w'=>e=FF (.bool rv)∧aa [] w4 w'):=Fk (by have:=cp (⟨1,n,[]⟩:Vl) w4;rw[a0] at this;exact this);have HF:=Fk a0;clear a0
   cases rv with
   | false =>
    have HX:Hid (R= .error (4,(aS q).at_)):=Fk (by rw[←bj.out];unfold kr;rw[HF.out];rfl);go_wp2_with fail
    refine br.out.mono ?_;rintro ev w5 ⟨rfl,I⟩;have bo:=Fk (a2.out.keep I);have a4:=Fk (a6.out.trans I.of_nil);clear I;go_wp2_with fail
    refine (bu 4 w5 bo.out).mono ?_;rintro ev w6 ⟨⟨gi,rfl,hb⟩,a8⟩;exact ⟨rfl,by rw[HX.out];exact ⟨gi,rfl,hb⟩,a4.out.trans a8.of_nil⟩
   | true =>
    have HX:Hid (R= .ok ((⟨1,n,[]⟩:Vl),q.tail)):=Fk (by rw[←bj.out];unfold kr;rw[HF.out];rfl);have aA:(aS q).kind≠5:=by rw[av.out];decide
    have ad:=Fk aA;clear aA;go_wp2_with fail
    refine br.out.mono ?_;rintro ev w5 ⟨rfl,I⟩;have U:=a2.out.keep I;have bo:=Fk U;have a4:=Fk (a6.out.trans I.of_nil);have D:=O.out.keep I (by simp);have J:=Fk (bk.out.keep I (by simp));have hmore:=U.more ad.out;have b6:(1:Int)≤(q.length:Int):=by omega
    obtain ⟨g5,o5,c5,p0,pz,pb,pg,d5,pn,pc,dt,-,-,-,-⟩:=U.open';have d4:(1:Int)<(c5:Int):=by omega
    have ch:=Fk (fun n a d=> @Ps.step w5 b g5 o5 c5 q U p0 ad.out n a d);have cD:=Fk D;have x0:w5.cell? ⟨vb,0,none⟩=some (FH FI 1):=D.cell 0;have x1:w5.cell? ⟨vb,1,none⟩=some (FH FI (n)):=D.cell 1;have x2:w5.cell? ⟨vb,2,none⟩=some (FC (bs [])):=D.cell 2;have d3:=D.lt;have r0:w5.cell? ⟨M,0,none⟩=some (FH FI 0):=J.out.cell 0;have r1:w5.cell? ⟨M,1,none⟩=some (FH FI 0):=J.out.cell 1;have r2:w5.cell? ⟨M,2,none⟩=some (FC ⟨#[]⟩):=J.out.cell 2;have c9:=J.out.frozen 0;have d0:=J.out.frozen 1;have dz:=J.out.frozen 2;have lr:=J.out.lt;have ds:=ct.out;have dq:=bc.out;have dv:=bb.out;clear U I D v0 v1 v2 lv hmore;go_wp2;have be:=ch.out (q.length-1) ⟨g5,o5+3,none⟩ (c5-1) rfl rfl rfl;have V:=J.out.far (p:=⟨b,0,none⟩) bc.out (FD (some ⟨g5,o5+3,none⟩) (q.length-1) (c5-1));have a1:=((V.set 0 (FH FI 1)).set 1 (FH FI (n))).set 2 (FC (bs []));have y0:=a1.cell 0;have y1:=a1.cell 1;have y2:=a1.cell 2;refine bodyPost_ret (v:= .agg #[FH FI 1,FH FI (n),FC (bs [])]) (by simp[results,Tryz.results176,go_sem,y0,y1,y2]) rfl ⟨?_,?_⟩
    ·rw[HX.out]
     exact ⟨rfl,((be.1.set V (by decide) (by decide) _).set (V.set 0 _) (by decide) (by decide) _).set ((V.set 0 _).set 1 _) (by decide) (by decide) _⟩
    exact (((a4.out.trans be.2).setCell (.inr a5.out) _).setCell (.inr a5.out) _).setCell (.inr a5.out) _
  all_goals
   have HX:Hid (R= .error (4,(aS q).at_)):=Fk (by rw[←HV.out];unfold eS;rw[av.out,bm.out,ha];rfl);have cm:=Fk (fun W hW=>lN (s:=tx) (fun n h=>by rw[ha] at h;cases h) cq W hW);clear ha;go_wp2_with fail
   refine (cm.out _ (c7.out.quiet ((Fz _ _).alloc _)).env).mono ?_;rintro ev w3 ⟨⟨n0,en,d9,rfl⟩,N⟩;have bz:=Fk ((b3.out.keep ((Fz _ _).alloc (FG #[FH FI 2,FH FI 0,FC ⟨#[]⟩] 46))).keep N);have cx:=Fk ((ba.out.alloc (FG #[FH FI 2,FH FI 0,FC ⟨#[]⟩] 46)).trans N.of_nil);clear N;go_wp2_with fail
   refine (bu 4 w3 bz.out).mono ?_;rintro ev w6 ⟨⟨gi,rfl,hb⟩,a8⟩;exact ⟨rfl,by rw[HX.out];exact ⟨gi,rfl,hb⟩,cx.out.trans a8.of_nil⟩
 have e3:(kd==3)=false:=by rw[beq_eq_false_iff_ne];exact N
 have e2:(kd==2)=false:=by rw[beq_eq_false_iff_ne];exact bZ
 have HX:Hid (R= .error (3,(aS q).at_)):=Fk (by rw[←HV.out];unfold eS;rw[av.out,if_neg (by simp),if_neg N,if_neg bZ];rfl);clear N bZ b7 bX;have bz:=Fk (b3.out.keep ((Fz _ _).alloc (FG #[FH FI 2,FH FI 0,FC ⟨#[]⟩] 46)));go_wp2_with fail
 refine (bu 3 _ bz.out).mono ?_;rintro ev w6 ⟨⟨gi,rfl,hb⟩,a8⟩;exact ⟨rfl,by rw[HX.out];exact ⟨gi,rfl,hb⟩,(ba.out.alloc _).trans a8.of_nil⟩
theorem xK {l q:List Tk} {b lo:Nat} (w:World) (hE:FB w lo) (dq:lo≤b) (h:Ps w b l) (hs:bC [45] l=true) (hq:l.tail=q) :
  Calls Tryz.prog 176 #[FE (some ⟨b,0,none⟩)] w fun e w'=>rm (eS true q) b e w'∧aa [b] w w':=by
 obtain ⟨R,hR⟩:∃ R,eS true q=R:=⟨_,rfl⟩
 rw[hR];have HV:=Fk hR;have HE:=Fk hE;obtain ⟨kd,cj⟩:∃ kd,(aS q).kind=kd:=⟨_,rfl⟩
 obtain ⟨tx,c3⟩:∃ tx,(aS q).text=tx:=⟨_,rfl⟩
 obtain ⟨D,cm⟩:∃ D,(aS q).at_=D:=⟨_,rfl⟩
 have aA:=Fk cj;have bb:=Fk c3;have ct:=Fk cm;clear hR hE;obtain ⟨g,o,c,c0,z0,lb,lg,-,hn,hc,bt,k0,k1,k2,hw⟩:=h.open';generalize (aS l).kind=kd0 at k0;generalize (aS l).text=tx0 at k1;generalize (aS l).at_=at0 at k2;clear hw;have b6:(0:Int)<(l.length:Int):=by omega
 have H:=Fk h;have c9:=Fk hs;have c8:=Fk hq;clear h cj c3 cm hs hq;have HT:Hid (∀ W,aa [] w W→Calls Tryz.prog 119 #[FE (some ⟨b,0,none⟩),FC (bs [45])] W fun e w'=>e=FF (.bool true)∧Ps w' b q∧aa [b] W w'):=Fk (fun W x=>by
  have:=eT [45] W (H.out.keep x);rw[c9.out] at this;rw[if_pos rfl,c8.out] at this;exact this)
 go_enter Tryz.func176,Tryz.ntmps176
 go_wp2_with fail
 refine (HT.out _ (((Fz [] w).alloc _).alloc _)).mono ?_;rintro ev w1 ⟨rfl,bZ,a6⟩;have ch:=(FA w 46 #[FH FI 0,FH FI 0,FC ⟨#[]⟩]).alloc (FG #[FH FI kd0,FC (bs tx0),FH FI at0] 114);have b0:=FA (w.alloc (FG #[FH FI 0,FH FI 0,FC ⟨#[]⟩] 46)) 114 #[FH FI kd0,FC (bs tx0),FH FI at0];rw[pT] at b0;have hP:=H.out.keep (((Fz [] w).alloc (FG #[FH FI 0,FH FI 0,FC ⟨#[]⟩] 46)).alloc (FG #[FH FI kd0,FC (bs tx0),FH FI at0] 114));have cz:=Fk (bT hP a6 ch (by decide));have U:=Fk (bT hP a6 b0 (by decide));have dr:=Fk ((((Fz [] w).alloc (FG #[FH FI 0,FH FI 0,FC ⟨#[]⟩] 46)).alloc (FG #[FH FI kd0,FC (bs tx0),FH FI at0] 114)).of_nil.trans a6);have cD:=Fk bZ;have a5:=Fk (Fm w.heap.size);have br:Hid (w.heap.size≠b):=Fk (by omega);have a9:Hid (w.heap.size+1≠b∧w.heap.size+2≤w1.heap.size∧b<w.heap.size):=Fk ⟨by omega,by have:=a6.size;rw[pT,pT] at this;omega,by omega⟩;clear ch b0 hP bZ a6 c0 z0 lb lg hn hc bt k0 k1 k2 b6;obtain ⟨M,hM⟩:∃ M,w.heap.size=M:=⟨_,rfl⟩
 rw[hM] at cz U br a9 ⊢;have a5:Hid (w.heap.size≤M):=Fk (by omega);clear hM;obtain ⟨g1,o1,c1,c0,z0,lb,lg,-,hn,hc,bt,k0,k1,k2,hw⟩:=cD.out.open';rw[aA.out] at k0;rw[bb.out] at k1;rw[ct.out] at k2;obtain ⟨b9,ba,bj⟩:=hw;rw[bb.out] at b9 ba bj;rw[aA.out] at ba bj;have ce:=Fk ba;have cq:=Fk bj;clear ba bj;have b6:(0:Int)<(q.length:Int):=by omega
 have t0:w1.cell? ⟨M+1,0,none⟩=some (FH FI kd0):=U.out.cell 0;have t1:w1.cell? ⟨M+1,1,none⟩=some (FC (bs tx0)):=U.out.cell 1;have t2:w1.cell? ⟨M+1,2,none⟩=some (FH FI at0):=U.out.cell 2;have f0:=U.out.frozen 0;have f1:=U.out.frozen 1;have f2:=U.out.frozen 2;have co:=U.out.lt;go_upto_region 5 with (fail)
 have a1:=Fk ((((U.out.set 0 (FH FI kd)).set 1 (FC (bs tx))).set 2 (FH FI D)).congr (cs':= #[FH FI kd,FC (bs tx),FH FI D]) rfl);have a0:Hid (b<M+1∧M≠M+1):=Fk (by have:=a9.out;omega);have be:=Fk (((cD.out.setNew (i:=0) a0.out.1 (FH FI kd)).setNew (i:=1) a0.out.1 (FC (bs tx))).setNew (i:=2) a0.out.1 (FH FI D));have a3:Hid (w.heap.size≤M+1):=Fk (Nat.le_succ_of_le a5.out);have ad:=Fk (((dr.out.setCell (p:=⟨M+1,0,none⟩) (.inr a3.out) (FH FI kd)).setCell (p:=⟨M+1,1,none⟩) (.inr a3.out) (FC (bs tx))).setCell (p:=⟨M+1,2,none⟩) (.inr a3.out) (FH FI D));have bq:=Fk (((cz.out.far (p:=⟨M+1,0,none⟩) a0.out.2 (FH FI kd)).far (p:=⟨M+1,1,none⟩) a0.out.2 (FC (bs tx))).far (p:=⟨M+1,2,none⟩) a0.out.2 (FH FI D));clear t0 t1 t2 f0 f1 f2 co c0 z0 lb lg hn hc bt k0 k1 k2 b6;have b8:Hid (w1.heap.size=(((w1.setCell ⟨M+1,0,none⟩ (FH FI kd)).setCell ⟨M+1,1,none⟩ (FC (bs tx))).setCell ⟨M+1,2,none⟩ (FH FI D)).heap.size):=Fk (by simp[World.setCell]);obtain ⟨wt,c4⟩:∃ x,((w1.setCell ⟨M+1,0,none⟩ (FH FI kd)).setCell ⟨M+1,1,none⟩ (FC (bs tx))).setCell ⟨M+1,2,none⟩ (FH FI D)=x:=⟨_,rfl⟩
 rw[c4] at a1 be ad bq b8 ⊢;clear c4;have c6:=Fk (HE.out.one dq ad.out);have dv:Hid (wt.heap.size≠b∧M≠wt.heap.size∧w.heap.size≤wt.heap.size):=Fk ⟨by have:=a9.out;have:=b8.out;omega,by have:=a9.out;have:=b8.out;omega,ad.out.size⟩;have t0:wt.cell? ⟨M+1,0,none⟩=some (FH FI kd):=a1.out.cell 0;have t1:wt.cell? ⟨M+1,1,none⟩=some (FC (bs tx)):=a1.out.cell 1;have t2:wt.cell? ⟨M+1,2,none⟩=some (FH FI D):=a1.out.cell 2;have co:=a1.out.lt;by_cases bv:kd=2
 ·subst bv
  have dB:Hid (∀ c∈tx,iZ c=true):=Fk (ce.out rfl);clear ce cq;rcases ha:Lib.atoiAll tx with n|_|_
  ·have a4:=je ha dB.out
   have cr:Hid (kr q ⟨1,-n,[]⟩=R):=Fk (by rw[←HV.out];unfold eS;rw[aA.out,bb.out,ha];simp);have b4:=Fk (fun W hW=>nR ha b9 W hW);have bZ:=a4.1;have d3:=a4.2;have b3:Hid (wt.heap.size≠b∧M≠wt.heap.size∧w.heap.size≤wt.heap.size):=dv;clear ha a4;go_wp2_with fail
   refine (b4.out _ (c6.out.quiet ((Fz _ _).alloc _)).env).mono ?_;rintro ev w3 ⟨rfl,O⟩;have J:=(FA wt 46 #[FH FI 2,FH FI 0,FC ⟨#[]⟩]).keep O (by simp);generalize cn:wt.heap.size=vb at *;have HQ:=Fk cn;clear cn;have z0':=J.frozen 0;have z1':=J.frozen 1;have z2':=J.frozen 2;have v0:w3.cell? ⟨vb,0,none⟩=some (FH FI 2):=J.cell 0;have v1:w3.cell? ⟨vb,1,none⟩=some (FH FI 0):=J.cell 1;have v2:w3.cell? ⟨vb,2,none⟩=some (FC ⟨#[]⟩):=J.cell 2;have lv:=J.lt;have ca:=Fk ((ad.out.alloc (FG #[FH FI 2,FH FI 0,FC ⟨#[]⟩] 46)).trans O.of_nil);have cg:=Fk ((be.out.keep ((Fz _ _).alloc (FG #[FH FI 2,FH FI 0,FC ⟨#[]⟩] 46))).keep O);have dt:=Fk (((bq.out.alloc (FG #[FH FI 2,FH FI 0,FC ⟨#[]⟩] 46))).keep O (by simp));have Z:=Fk J;have dz:=Fk b3.out.1;have bc:=Fk b3.out.2.1;have b7:=Fk b3.out.2.2;clear J O;go_upto_region 17 with (fail)
   have bm:=(((Z.out.set 0 (FH FI 1)).set 1 (FH FI (-n))).set 2 (FC ⟨#[]⟩)).congr (cs':= #[FH FI 1,FH FI (-n),FC (bs [])]) rfl;have av:=Fk bm;have b1:=Fk (((cg.out.set Z.out (i:=0) (by decide) (by decide) (FH FI 1)).set (Z.out.set 0 _) (i:=1) (by decide) (by decide) (FH FI (-n))).set ((Z.out.set 0 _).set 1 _) (i:=2) (by decide) (by decide) (FC ⟨#[]⟩));have cd:=Fk (((ca.out.setCell (p:=⟨vb,0,none⟩) (.inr b7.out) (FH FI 1)).setCell (p:=⟨vb,1,none⟩) (.inr b7.out) (FH FI (-n))).setCell (p:=⟨vb,2,none⟩) (.inr b7.out) (FC ⟨#[]⟩));have cu:=Fk (((dt.out.far (p:=⟨vb,0,none⟩) bc.out (FH FI 1)).far (p:=⟨vb,1,none⟩) bc.out (FH FI (-n))).far (p:=⟨vb,2,none⟩) bc.out (FC ⟨#[]⟩));clear bm z0' z1' z2' v0 v1 v2 lv;obtain ⟨w4,cx⟩:∃ x,((w3.setCell ⟨vb,0,none⟩ (FH FI 1)).setCell ⟨vb,1,none⟩ (FH FI (-n))).setCell ⟨vb,2,none⟩ (FC ⟨#[]⟩)=x:=⟨_,rfl⟩
   rw[cx] at av b1 cd cu ⊢;clear cx;have v0:w4.cell? ⟨vb,0,none⟩=some (FH FI 1):=av.out.cell 0;have v1:w4.cell? ⟨vb,1,none⟩=some (FH FI (-n)):=av.out.cell 1;have v2:w4.cell? ⟨vb,2,none⟩=some (FC (bs [])):=av.out.cell 2;have lv:=av.out.lt;obtain ⟨rv,bz⟩:∃ rv,eO (⟨1,-n,[]⟩:Vl)=rv:=⟨_,rfl⟩
   have cy:Hid (Calls Tryz.prog 28 #[.agg #[FH FI 1,FH FI (-n),FC (bs [])]] w4 fun e w'=>e=FF (.bool rv)∧aa [] w4 w'):=Fk (by have:=cp (⟨1,-n,[]⟩:Vl) w4;rw[bz] at this;exact this);have HF:=Fk bz;clear bz
   cases rv with
   | false =>
    have HX:Hid (R= .error (4,(aS q).at_)):=Fk (by rw[←cr.out];unfold kr;rw[HF.out];rfl);go_wp2_with fail
    refine cy.out.mono ?_;rintro ev w5 ⟨rfl,N⟩;have cv:=Fk (b1.out.keep N);have b5:=Fk (cd.out.trans N.of_nil);clear N;go_wp2_with fail
    refine (bu 4 w5 cv.out).mono ?_;rintro ev w6 ⟨⟨gi,rfl,hb⟩,a7⟩;exact ⟨rfl,by rw[HX.out];exact ⟨gi,rfl,hb⟩,b5.out.trans a7.of_nil⟩
   | true =>
    have HX:Hid (R= .ok ((⟨1,-n,[]⟩:Vl),q.tail)):=Fk (by rw[←cr.out];unfold kr;rw[HF.out];rfl);have bo:(aS q).kind≠5:=by rw[aA.out];decide
    have bk:=Fk bo;clear bo;go_wp2_with fail
    refine cy.out.mono ?_;rintro ev w5 ⟨rfl,N⟩;have a2:=b1.out.keep N;have cv:=Fk a2;have b5:=Fk (cd.out.trans N.of_nil);have I:=av.out.keep N (by simp);have V:=Fk (cu.out.keep N (by simp));have hmore:=a2.more bk.out;have c7:(1:Int)≤(q.length:Int):=by omega
    obtain ⟨g5,o5,c5,p0,pz,pb,pg,en,pn,pc,d6,-,-,-,-⟩:=a2.open';have el:(1:Int)<(c5:Int):=by omega
    have ds:=Fk (fun n a d=> @Ps.step w5 b g5 o5 c5 q a2 p0 bk.out n a d);have d0:=Fk I;have x0:w5.cell? ⟨vb,0,none⟩=some (FH FI 1):=I.cell 0;have x1:w5.cell? ⟨vb,1,none⟩=some (FH FI (-n)):=I.cell 1;have x2:w5.cell? ⟨vb,2,none⟩=some (FC (bs [])):=I.cell 2;have eb:=I.lt;have r0:w5.cell? ⟨M,0,none⟩=some (FH FI 0):=V.out.cell 0;have r1:w5.cell? ⟨M,1,none⟩=some (FH FI 0):=V.out.cell 1;have r2:w5.cell? ⟨M,2,none⟩=some (FC ⟨#[]⟩):=V.out.cell 2;have d2:=V.out.frozen 0;have d9:=V.out.frozen 1;have d8:=V.out.frozen 2;have lr:=V.out.lt;have d5:=dz.out;have d4:=br.out;have d7:=bc.out;clear a2 N I v0 v1 v2 lv hmore;go_wp2;have ci:=ds.out (q.length-1) ⟨g5,o5+3,none⟩ (c5-1) rfl rfl rfl;have a8:=V.out.far (p:=⟨b,0,none⟩) br.out (FD (some ⟨g5,o5+3,none⟩) (q.length-1) (c5-1));have bX:=((a8.set 0 (FH FI 1)).set 1 (FH FI (-n))).set 2 (FC (bs []));have y0:=bX.cell 0;have y1:=bX.cell 1;have y2:=bX.cell 2;refine bodyPost_ret (v:= .agg #[FH FI 1,FH FI (-n),FC (bs [])]) (by simp[results,Tryz.results176,go_sem,y0,y1,y2]) rfl ⟨?_,?_⟩
    ·rw[HX.out]
     exact ⟨rfl,((ci.1.set a8 (by decide) (by decide) _).set (a8.set 0 _) (by decide) (by decide) _).set ((a8.set 0 _).set 1 _) (by decide) (by decide) _⟩
    exact (((b5.out.trans ci.2).setCell (.inr a5.out) _).setCell (.inr a5.out) _).setCell (.inr a5.out) _
  all_goals
   have HX:Hid (R= .error (4,(aS q).at_)):=Fk (by rw[←HV.out];unfold eS;rw[aA.out,bb.out,ha];rfl);have b4:=Fk (fun W hW=>lN (s:=tx) (fun n h=>by rw[ha] at h;cases h) b9 W hW);clear ha;go_wp2_with fail
   refine (b4.out _ (c6.out.quiet ((Fz _ _).alloc _)).env).mono ?_;rintro ev w3 ⟨⟨n0,er,d1,rfl⟩,O⟩;have cg:=Fk ((be.out.keep ((Fz _ _).alloc (FG #[FH FI 2,FH FI 0,FC ⟨#[]⟩] 46))).keep O);have ca:=Fk ((ad.out.alloc (FG #[FH FI 2,FH FI 0,FC ⟨#[]⟩] 46)).trans O.of_nil);clear O;go_wp2_with fail
   refine (bu 4 w3 cg.out).mono ?_;rintro ev w6 ⟨⟨gi,rfl,hb⟩,a7⟩;exact ⟨rfl,by rw[HX.out];exact ⟨gi,rfl,hb⟩,ca.out.trans a7.of_nil⟩
 have e2:(kd != 2)=true:=by rw[bne_iff_ne];exact bv
 have HX:Hid (R= .error (3,(aS q).at_)):=Fk (by rw[←HV.out];unfold eS;rw[aA.out,e2];rfl);clear bv ce cq;go_wp2_with fail
 refine (bu 3 _ be.out).mono ?_;rintro ev w6 ⟨⟨gi,rfl,hb⟩,a7⟩;exact ⟨rfl,by rw[HX.out];exact ⟨gi,rfl,hb⟩,ad.out.trans a7.of_nil⟩
theorem uL {l:List Tk} {b J:Nat} (w:World) (H:FB w J) (D:J≤b) (h:Ps w b l) :
  Calls Tryz.prog 176 #[FE (some ⟨b,0,none⟩)] w fun e w'=>rm (iq l) b e w'∧aa [b] w w':=by
 unfold iq
 cases I:bC [45] l with
 | true=>exact xK w H D h I rfl
 | false=>exact xJ w H D h I
def Et (a:Ar):Value:= .agg #[FC (bs a.col),FH FI a.val.kind,FH FI a.val.num,FC (bs a.val.word)]
def Dn (R:Except (Int×Int) (Ar×List Tk)) (b:Nat) (e:Ending) (w':World):Prop:=match R with
 | .ok (a,r)=>e=FF (Et a)∧Ps w' b r
 | .error x=>bS x e w'
theorem nS {l:List Tk} {b lo:Nat} (w:World) (hE:FB w lo) (a3:lo≤b) (h:Ps w b l) :
  Calls Tryz.prog 155 #[FE (some ⟨b,0,none⟩)] w fun e w'=>Dn (lK l) b e w'∧aa [b] w w':=by
 obtain ⟨R,U⟩:∃ R,lK l=R:=⟨_,rfl⟩
 rw[U];have HN:Hid (∀ W,aa [] w W→∀ x,aQ l= .error x→Calls Tryz.prog 80 #[FE (some ⟨b,0,none⟩)] W fun e w'=>bS x e w'∧aa [b] W w'):=Fk (fun W q x hx=>bN hx W (h.keep q));have HY:Hid (∀ W,aa [] w W→∀ s r,aQ l= .ok (s,r)→Calls Tryz.prog 80 #[FE (some ⟨b,0,none⟩)] W fun e w'=>e=FF (FC (bs s))∧Ps w' b r∧aa [b] W w'):=Fk (fun W q s r hx=>bi hx W (h.keep q));have HV:Hid (∀ W,aa [] w W→Calls Tryz.prog 176 #[FE (some ⟨b,0,none⟩)] W fun e w'=>rm (iq l) b e w'∧aa [b] W w'):=Fk (fun W q=>uL W (hE.quiet q) a3 (h.keep q));have H:=Fk h;obtain ⟨g,o,c,c0,z0,lb,lg,-,hn,hc,a0,k0,k1,k2,-⟩:=h.open';have a1:(0:Int)<(l.length:Int):=by omega
 have HM:=Fk (Fm w.heap.size);have a6:Hid (w.heap.size≠b):=Fk (by omega);have HB:=Fk (FA w 48 #[FC ⟨#[]⟩,FH FI 0,FH FI 0,FC ⟨#[]⟩]);have HK:=Fk ((Fz [] w).alloc (FG #[FC ⟨#[]⟩,FH FI 0,FH FI 0,FC ⟨#[]⟩] 48));have HP:=Fk (h.keep HK.out);clear h hE;unfold lK at U;by_cases h1:(aS l).kind=1
 ·rw[if_pos h1] at U
  rw[h1] at k0;rcases Z:aQ l with x|⟨s,r⟩
  ·rw[Z] at U
   have HX:Hid (R= .error x):=Fk U.symm;have HC:=Fk (HN.out _ HK.out x Z);clear U h1 Z;go_enter Tryz.func155,Tryz.ntmps155
   go_wp2_with fail
   refine HC.out.mono ?_;rintro ev w6 ⟨⟨gi,rfl,hb⟩,J⟩;exact ⟨rfl,by rw[HX.out];exact ⟨gi,rfl,hb⟩,HK.out.of_nil.trans J⟩
  rw[Z] at U;have HX:Hid (R= .ok (⟨s,zV⟩,r)):=Fk U.symm;have HC:=Fk (HY.out _ HK.out s r Z);clear U h1 Z;go_enter Tryz.func155,Tryz.ntmps155
  go_wp2_with fail
  refine HC.out.mono ?_;rintro ev w6 ⟨rfl,V,J⟩;have D:=bT HP.out J HB.out (by decide);obtain ⟨M,hM⟩:∃ M,w.heap.size=M:=⟨_,rfl⟩
  rw[hM] at D ⊢;have N:Hid (w.heap.size≤M):=Fk (by omega);have I:=Fk D;have ad:=Fk V;have av:=Fk (HK.out.of_nil.trans J);have f0:=D.frozen 0;have f1:=D.frozen 1;have f2:=D.frozen 2;have f3:=D.frozen 3;have r0:w6.cell? ⟨M,0,none⟩=some (FC ⟨#[]⟩):=D.cell 0;have r1:w6.cell? ⟨M,1,none⟩=some (FH FI 0):=D.cell 1;have r2:w6.cell? ⟨M,2,none⟩=some (FH FI 0):=D.cell 2;have r3:w6.cell? ⟨M,3,none⟩=some (FC ⟨#[]⟩):=D.cell 3;have lr:=D.lt;clear D V J hM c0 z0 lb lg hn hc a0 k0 k1 k2 a1;go_wp2;have O:=(((I.out.set 0 (FC (bs s))).set 1 (FH FI 0)).set 2 (FH FI 0)).set 3 (FC ⟨#[]⟩);have y0:=O.cell 0;have y1:=O.cell 1;have y2:=O.cell 2;have y3:=O.cell 3;refine bodyPost_ret (v:= .agg #[FC (bs s),FH FI 0,FH FI 0,FC ⟨#[]⟩]) (by simp[results,Tryz.results155,go_sem,y0,y1,y2,y3]) rfl ⟨?_,?_⟩
  ·rw[HX.out]
   exact ⟨rfl,(((ad.out.set I.out (by decide) (by decide) _).set (I.out.set 0 _) (by decide) (by decide) _).set ((I.out.set 0 _).set 1 _) (by decide) (by decide) _).set (((I.out.set 0 _).set 1 _).set 2 _) (by decide) (by decide) _⟩
  exact (((av.out.setCell (.inr N.out) _).setCell (.inr N.out) _).setCell (.inr N.out) _).setCell (.inr N.out) _
 rw[if_neg h1] at U;have a5:((aS l).kind==1)=false:=by rw[beq_eq_false_iff_ne];exact h1
 have HC:=HV.out _ HK.out;rcases Z:iq l with x|⟨v,r⟩
 ·rw[Z] at U HC
  have HX:Hid (R= .error x):=Fk U.symm;have aA:=Fk HC;clear U h1 Z HC;go_enter Tryz.func155,Tryz.ntmps155
  go_wp2_with fail
  refine aA.out.mono ?_;rintro ev w6 ⟨⟨gi,rfl,hb⟩,J⟩;exact ⟨rfl,by rw[HX.out];exact ⟨gi,rfl,hb⟩,HK.out.of_nil.trans J⟩
 rw[Z] at U HC;obtain ⟨kd,nm,wd⟩:=v;have HX:Hid (R= .ok (⟨[],⟨kd,nm,wd⟩⟩,r)):=Fk U.symm;have aA:=Fk HC;clear U h1 Z HC;go_enter Tryz.func155,Tryz.ntmps155
 go_wp2_with fail
 refine aA.out.mono ?_;rintro ev w6 ⟨⟨a2,V⟩,J⟩;have a4:ev=FF (.agg #[FH FI kd,FH FI nm,FC (bs wd)]):=a2;subst a4;clear a2;have D:=bT HP.out J HB.out (by decide);obtain ⟨M,hM⟩:∃ M,w.heap.size=M:=⟨_,rfl⟩
 rw[hM] at D ⊢;have N:Hid (w.heap.size≤M):=Fk (by omega);have I:=Fk D;have ad:=Fk V;have av:=Fk (HK.out.of_nil.trans J);have f0:=D.frozen 0;have f1:=D.frozen 1;have f2:=D.frozen 2;have f3:=D.frozen 3;have r0:w6.cell? ⟨M,0,none⟩=some (FC ⟨#[]⟩):=D.cell 0;have r1:w6.cell? ⟨M,1,none⟩=some (FH FI 0):=D.cell 1;have r2:w6.cell? ⟨M,2,none⟩=some (FH FI 0):=D.cell 2;have r3:w6.cell? ⟨M,3,none⟩=some (FC ⟨#[]⟩):=D.cell 3;have lr:=D.lt;clear D V J hM c0 z0 lb lg hn hc a0 k0 k1 k2 a1;go_wp2;have O:=(((I.out.set 0 (FC ⟨#[]⟩)).set 1 (FH FI kd)).set 2 (FH FI nm)).set 3 (FC (bs wd));have y0:=O.cell 0;have y1:=O.cell 1;have y2:=O.cell 2;have y3:=O.cell 3;refine bodyPost_ret (v:= .agg #[FC ⟨#[]⟩,FH FI kd,FH FI nm,FC (bs wd)]) (by simp[results,Tryz.results155,go_sem,y0,y1,y2,y3]) rfl ⟨?_,?_⟩
 ·rw[HX.out]
  exact ⟨rfl,(((ad.out.set I.out (by decide) (by decide) _).set (I.out.set 0 _) (by decide) (by decide) _).set ((I.out.set 0 _).set 1 _) (by decide) (by decide) _).set (((I.out.set 0 _).set 1 _).set 2 _) (by decide) (by decide) _⟩
 exact (((av.out.setCell (.inr N.out) _).setCell (.inr N.out) _).setCell (.inr N.out) _).setCell (.inr N.out) _
theorem E0:(Tryz.prog.info? 64).map (fun i=>(i.zero,i.size,i.bytes))=some (some (.agg #[FC ⟨#[]⟩,FH FI 0]),2,24):=by kernel_rfl
def C6 (R:Except (Int×Int) (In×List Tk)) (b base:Nat) (e:Ending) (w':World):Prop:=match R with
 | .ok (x,r)=>∃ v,e=FF (.agg #[FH FI x.at_,FC (bs x.name),v])∧w'.ownsRow base 64 2 v x.cols.length (ai x.cols)∧Ps w' b r
 | .error x=>bS x e w'
theorem au {α β:Type} (x:Int×Int) (f:α→Except (Int×Int) β):((Except.error x:Except (Int×Int) α) >>= f)= .error x:=rfl
theorem ar {α β:Type} (a:α) (f:α→Except (Int×Int) β):((Except.ok a:Except (Int×Int) α) >>= f)=f a:=rfl
theorem rp {W:World} {g b:Nat} (l:List Bs) (h:ao W g 9 (strs l).toArray) (D:g≠b):Rd W [b] 1 (some ⟨g,0,none⟩) l.length (strs l) :=
 ⟨by rw[jd,Nat.mul_one],fun _=>⟨_,rfl,by simpa using D,h.lt,fun j u H=>by rw[cI,Nat.zero_add,h.cell];simpa using H⟩⟩
theorem eU (n:Nat) (l:List Tk) (acc:List Cl):dD (n+1) l acc=(aQ l >>= fun p=>iu [[105,110,116],[116,101,120,116]] p.2 >>= fun k=>if bC [44] k.2 then dD n k.2.tail (acc++[⟨p.1,if k.1=[116,101,120,116] then 2 else 1⟩]) else .ok (acc++[⟨p.1,if k.1=[116,101,120,116] then 2 else 1⟩],k.2)):=by
 conv=>lhs;unfold dD zO
 rcases aQ l with x|⟨s,r⟩
 ·rfl
 rw[ar,ar];simp only;rcases iu [[105,110,116],[116,101,120,116]] r with x|⟨k,h⟩<;>rfl
theorem mD (acc:List Cl) (s:Bs) (k:Int):ai (acc++[⟨s,k⟩])=ai acc++[FC (bs s),FH FI k]:=by simp[ai,fe]
theorem az {l r:List Tk} {s:Bs} (h:aQ l= .ok (s,r)):r.length=l.length-1:=by
 obtain ⟨_,_,_,e⟩:=ja h;rw[e,List.length_tail]
theorem aD {l r:List Tk} {s:Bs} (h:aR s l= .ok r):r.length=l.length-1:=by
 obtain ⟨_,e⟩:=nM h;rw[e,List.length_tail]
theorem eV {l r:List Tk} {s:Bs} {ms:List Bs} (h:iu ms l= .ok (s,r)):r.length=l.length-1:=by
 obtain ⟨_,_,_,_,_,e⟩:=nk h;rw[e,List.length_tail]
theorem qm {l:List Tk} {b:Nat} (w:World) (h:Ps w b l) (es:l.length≤1000000) :
  Calls Tryz.prog 77 #[FE (some ⟨b,0,none⟩)] w fun e w'=>C6 (eE l) b w.heap.size e w'∧aa [b] w w':=by
 obtain ⟨i0,hi,ey,eY,d7⟩:=info_parts E0;have HL:=Fk es;obtain ⟨R,hR⟩:∃ R,eE l=R:=⟨_,rfl⟩
 rw[hR];unfold eE at hR;obtain ⟨M,dr⟩:∃ M,(aS l).at_=M:=⟨_,rfl⟩
 rw[dr] at hR;have HR:=Fk hR;have H:=Fk h;obtain ⟨g,o,c,c0,z0,lb,lg,-,hn,hc,e5,k0,k1,k2,-⟩:=h.open';rw[dr] at k2;have fn:(0:Int)<(l.length:Int):=by omega
 have HW:=Fk (pT w (FG #[FH FI 0,FC ⟨#[]⟩,FD none 0 0] 57));have a8:=Fk ((FA w 57 #[FH FI 0,FC ⟨#[]⟩,FD none 0 0]).alloc (FG #[FH FI M,FC ⟨#[]⟩,FD none 0 0] 57));have dt:=FA (w.alloc (FG #[FH FI 0,FC ⟨#[]⟩,FD none 0 0] 57)) 57 #[FH FI M,FC ⟨#[]⟩,FD none 0 0];rw[pT] at dt;have a7:=Fk dt;have b9:=Fk (((Fz [] w).alloc (FG #[FH FI 0,FC ⟨#[]⟩,FD none 0 0] 57)).alloc (FG #[FH FI M,FC ⟨#[]⟩,FD none 0 0] 57));have d8:Hid (w.heap.size≠b):=Fk (by omega);have ct:Hid (w.heap.size≤w.heap.size+1):=Fk (by omega);have b3:=Fk (h.keep b9.out);clear h hR dr dt es;go_enter Tryz.func77,Tryz.ntmps77
 go_upto_region 2 with (fail)
 obtain ⟨w0,eB⟩:∃ x,(w.alloc (FG #[FH FI 0,FC ⟨#[]⟩,FD none 0 0] 57)).alloc (FG #[FH FI M,FC ⟨#[]⟩,FD none 0 0] 57)=x:=⟨_,rfl⟩
 rw[eB] at a8 a7 b9 b3 ⊢;clear eB HW c0 z0 lb lg hn hc e5 k0 k1 k2 fn;obtain ⟨xb,hx⟩:∃ xb,w.heap.size+1=xb:=⟨_,rfl⟩
 rw[hx] at a7 ct ⊢;obtain ⟨rb,hr⟩:∃ rb,w.heap.size=rb:=⟨_,rfl⟩
 rw[hr] at a8 d8 ⊢;have b1:Hid (rb≠xb∧w.heap.size≤rb):=Fk (by omega);clear hx hr;rcases h1:aR [105,110] l with x|r1
 ·have HX:Hid (R= .error x):=Fk (by rw[←HR.out,h1];rfl)
  have HC:=Fk (cO h1 w0 b3.out);clear h1;go_wp2_with fail
  refine HC.out.mono ?_;rintro ev w9 ⟨⟨gi,rfl,hb⟩,a1⟩;exact ⟨rfl,by rw[HX.out];exact ⟨gi,rfl,hb⟩,b9.out.of_nil.trans a1⟩
 have c9:Hid ((do let (nm,r) ← aQ r1;let r ← aR [58] r;let (cs,r) ← dD r.length r [];let r ← aR [59] r;.ok (⟨M,nm,cs⟩,r))=R):=Fk (by rw[←HR.out,h1];rfl);have HC:=Fk (aT h1 w0 b3.out);have ex:=aD h1;have e4:=Fk ex;clear h1 HR ex;go_wp2_with fail
 refine HC.out.mono ?_;rintro ev w1 ⟨rfl,dz,cy⟩;have cg:=Fk dz;have c3:=Fk (bT b3.out cy a8.out (by decide));have c6:=Fk (bT b3.out cy a7.out (by decide));have ds:=Fk (b9.out.of_nil.trans cy);clear dz cy HC b3 a8 a7 b9;rcases h2:aQ r1 with x|⟨nm,r2⟩
 ·have HX:Hid (R= .error x):=Fk (by rw[←c9.out,h2];rfl)
  have HC:=Fk (bN h2 w1 cg.out);clear h2;go_wp2_with fail
  refine HC.out.mono ?_;rintro ev w9 ⟨⟨gi,rfl,hb⟩,a1⟩;exact ⟨rfl,by rw[HX.out];exact ⟨gi,rfl,hb⟩,ds.out.trans a1⟩
 have d0:Hid ((do let r ← aR [58] r2;let (cs,r) ← dD r.length r [];let r ← aR [59] r;.ok (⟨M,nm,cs⟩,r))=R):=Fk (by rw[←c9.out,h2];rfl);have HC:=Fk (bi h2 w1 cg.out);have fs:=Fk (az h2);clear h2 c9;go_wp2_with fail
 refine HC.out.mono ?_;rintro ev w2 ⟨rfl,bk,ad⟩;have HP2':=Fk bk;have HRB2':=Fk (bT cg.out ad c3.out (by decide));have HXB2':=Fk (bT cg.out ad c6.out (by decide));have HK2':=Fk (ds.out.trans ad);clear bk ad HC cg c3 c6 ds;have e0:w2.cell? ⟨xb,1,none⟩=some (FC ⟨#[]⟩):=HXB2'.out.cell 1;have e1:=HXB2'.out.frozen 1;have e2:=HXB2'.out.lt;go_upto_region 4 with (fail)
 have b4:=Fk (HP2'.out.set (i:=1) HXB2'.out (by decide) (by decide) (FC (bs nm)));have ch:=Fk (HRB2'.out.far (p:=⟨xb,1,none⟩) b1.out.1 (FC (bs nm)));have b7:=Fk ((HXB2'.out.set 1 (FC (bs nm))).congr (cs':= #[FH FI M,FC (bs nm),FD none 0 0]) rfl);have cu:=Fk (HK2'.out.setCell (p:=⟨xb,1,none⟩) (.inr ct.out) (FC (bs nm)));obtain ⟨w3,eb⟩:∃ x,w2.setCell ⟨xb,1,none⟩ (FC (bs nm))=x:=⟨_,rfl⟩
 rw[eb] at b4 ch b7 cu ⊢;clear eb HP2' HRB2' HXB2' HK2' e0 e1 e2;rcases h3:aR [58] r2 with x|r3
 ·have HX:Hid (R= .error x):=Fk (by rw[←d0.out,h3];rfl)
  have HC:=Fk (cO h3 w3 b4.out);clear h3;go_wp2_with fail
  refine HC.out.mono ?_;rintro ev w9 ⟨⟨gi,rfl,hb⟩,a1⟩;exact ⟨rfl,by rw[HX.out];exact ⟨gi,rfl,hb⟩,cu.out.trans a1⟩
 obtain ⟨S,hS⟩:∃ S,dD r3.length r3 []=S:=⟨_,rfl⟩
 have cr:Hid ((S >>= fun p=>(aR [59] p.2 >>= fun r=> .ok (⟨M,nm,p.1⟩,r)))=R):=Fk (by rw[←d0.out,h3,ar,hS]);have HS:=Fk hS;have HC:=Fk (aT h3 w3 b4.out);have e6:=Fk (aD h3);have b5:r3.length≤l.length:=by have:=e4.out;have:=fs.out;have:=e6.out;omega
 clear h3 d0 hS;go_wp2_with fail
 refine HC.out.mono ?_;rintro ev w4 ⟨rfl,en,cx⟩;have d9:=Fk en;have c4:=Fk (bT b4.out cx ch.out (by decide));have cD:=Fk (bT b4.out cx b7.out (by decide));have eA:=Fk (cu.out.trans cx);clear en cx HC b4 ch b7 cu;go_wp2_with fail
 go_loopw [4] (fun m wr=>∃ (mb:Bool) (acc:List Cl) (q:List Tk) (n:Nat) (v:Value),m= .bool mb∧Hid (mb=true→dD n q acc=S∧q.length≤n)∧Hid (mb=false→S= .ok (acc,q))∧acc.length+q.length≤l.length∧Hid (Ps wr b q)∧Hid (ao wr xb 57 #[FH FI M,FC (bs nm),v])∧Hid (ao wr rb 57 #[FH FI 0,FC ⟨#[]⟩,FD none 0 0])∧Hid (wr.ownsRow w.heap.size 64 2 v acc.length (ai acc))∧Hid (aa [b] w wr)) (fun _ wr=>nN b wr)
 case atStart=>exact ⟨true,[],r3,r3.length,_,rfl,Fk (fun _=>⟨HS.out,Fm _⟩),Fk (fun h=>by cases h),by simpa using b5,d9,cD,c4,Fk (World.ownsRow_nil _ _ _ _),eA⟩
 clear d9 cD c4 eA b5 HS;obtain ⟨mb,acc,q,n,v,rfl,HG,HF,f4,HP,a7,a8,HO,HK⟩:=hrel;obtain ⟨A,cv,rfl,-⟩:=aq HO.out;have HM:=Fk HP.out.left
 cases mb with
 | false =>
  have b0:=Fk (HF.out rfl);clear HF HG;rcases h7:aR [59] q with x|r7
  ·have HX:Hid (R= .error x):=Fk (by rw[←cr.out,b0.out,ar,h7];rfl)
   have HC:=Fk (cO h7 wr HP.out);clear h7;go_wp2_with fail
   refine HC.out.mono ?_;rintro ev w9 ⟨⟨gi,rfl,hb⟩,a1⟩;exact ⟨rfl,by rw[HX.out];exact ⟨gi,rfl,hb⟩,HK.out.trans a1⟩
  have HX:Hid (R= .ok (⟨M,nm,acc⟩,r7)):=Fk (by rw[←cr.out,b0.out,ar,h7];rfl);have HC:=Fk (aT h7 wr HP.out);clear h7;go_wp2_with fail
  refine HC.out.mono ?_;rintro ev V ⟨rfl,hp,Z⟩;have ca:=bT HP.out Z a7.out (by decide);have a9:=bT HP.out Z a8.out (by decide);have a6:=Fk (gy HO.out HP.out Z (by decide));have ba:=Fk (HK.out.trans Z);have aA:=Fk hp;have d1:=Fk a9;have x0:V.cell? ⟨xb,0,none⟩=some (FH FI M):=ca.cell 0;have x1:V.cell? ⟨xb,1,none⟩=some (FC (bs nm)):=ca.cell 1;have x2:V.cell? ⟨xb,2,none⟩=some (FD A acc.length cv):=ca.cell 2;have lx:=ca.lt;have y0:V.cell? ⟨rb,0,none⟩=some (FH FI 0):=a9.cell 0;have y1:V.cell? ⟨rb,1,none⟩=some (FC ⟨#[]⟩):=a9.cell 1;have y2:V.cell? ⟨rb,2,none⟩=some (FD none 0 0):=a9.cell 2;have f0:=a9.frozen 0;have f1:=a9.frozen 1;have f2:=a9.frozen 2;have lr:=a9.lt;clear hp Z ca a9 HC;go_wp2;have dB:=((d1.out.set 0 (FH FI M)).set 1 (FC (bs nm))).set 2 (FD A acc.length cv);have z0:=dB.cell 0;have z1:=dB.cell 1;have z2:=dB.cell 2;refine bodyPost_ret (v:= .agg #[FH FI M,FC (bs nm),FD A acc.length cv]) (by simp[results,Tryz.results77,go_sem,z0,z1,z2]) rfl ⟨?_,?_⟩
  ·rw[HX.out]
   have cq:aa [rb] V (((V.setCell ⟨rb,0,none⟩ (FH FI M)).setCell ⟨rb,1,none⟩ (FC (bs nm))).setCell ⟨rb,2,none⟩ (FD A acc.length cv)):=(((Fz [rb] V).setCell (.inl (by simp)) _).setCell (.inl (by simp)) _).setCell (.inl (by simp)) _;exact ⟨_,rfl,aE a6.out cq (fun g hg hm=>by rw[List.mem_singleton.1 hm] at hg;exact (aL a6.out rb hg).ne d1.out.ty (by decide) rfl),aA.out.far cq (fun x hx=>⟨57,by rw[List.mem_singleton.1 hx];exact d1.out.ty,by decide,by decide⟩)⟩
  exact ((ba.out.setCell (.inr b1.out.2) _).setCell (.inr b1.out.2) _).setCell (.inr b1.out.2) _
 | true =>
  obtain ⟨er,f7⟩:=HG.out rfl;have f6:=HP.out.endT.pos;obtain ⟨n,rfl⟩:∃ m,n=m+1:=⟨n-1,by omega⟩
  have c8:=Fk er;clear er HG HF;rcases h5:aQ q with x|⟨s,q1⟩
  ·have HX:Hid (R= .error x):=Fk (by rw[←cr.out,←c8.out,eU,h5];rfl)
   have HC:=Fk (bN h5 wr HP.out);clear h5;go_wp2_with fail
   refine HC.out.mono ?_;rintro ev w9 ⟨⟨gi,rfl,hb⟩,a1⟩;exact ⟨rfl,by rw[HX.out];exact ⟨gi,rfl,hb⟩,HK.out.trans a1⟩
  have b8:Hid ((iu [[105,110,116],[116,101,120,116]] q1 >>= fun p=>(if bC [44] p.2 then dD n p.2.tail (acc++[⟨s,if p.1=[116,101,120,116] then 2 else 1⟩]) else .ok (acc++[⟨s,if p.1=[116,101,120,116] then 2 else 1⟩],p.2)))=S):=Fk (by
   rw[←c8.out,eU,h5];rfl)
  have HC:=Fk (bi h5 wr HP.out);have f3:=Fk (az h5);clear h5 c8;go_wp2_with fail
  refine HC.out.mono ?_;rintro ev w2 ⟨rfl,bk,ad⟩;have bj:=Fk ((bk.keep ((Fz _ _).alloc (FG #[FC (bs s),FH FI 1] 64))).keep ((Fz _ _).alloc (FG #[FC (bs [105,110,116]),FC (bs [116,101,120,116])] 9)));have d4:=Fk (((HK.out.trans ad).alloc (FG #[FC (bs s),FH FI 1] 64)).alloc (FG #[FC (bs [105,110,116]),FC (bs [116,101,120,116])] 9));have cz:=Fk (((bT HP.out ad a7.out (by decide)).alloc (FG #[FC (bs s),FH FI 1] 64)).alloc (FG #[FC (bs [105,110,116]),FC (bs [116,101,120,116])] 9));have c1:=Fk (((bT HP.out ad a8.out (by decide)).alloc (FG #[FC (bs s),FH FI 1] 64)).alloc (FG #[FC (bs [105,110,116]),FC (bs [116,101,120,116])] 9));have d5:=Fk (((gy HO.out HP.out ad (by decide)).alloc (FG #[FC (bs s),FH FI 1] 64)).alloc (FG #[FC (bs [105,110,116]),FC (bs [116,101,120,116])] 9));have c5:=Fk ((FA w2 64 #[FC (bs s),FH FI 1]).alloc (FG #[FC (bs [105,110,116]),FC (bs [116,101,120,116])] 9));have d2:=FA (w2.alloc (FG #[FC (bs s),FH FI 1] 64)) 9 #[FC (bs [105,110,116]),FC (bs [116,101,120,116])];rw[pT] at d2;have d6:Rd ((w2.alloc (FG #[FC (bs s),FH FI 1] 64)).alloc (FG #[FC (bs [105,110,116]),FC (bs [116,101,120,116])] 9)) [b] 1 (some ⟨w2.heap.size+1,0,none⟩) 2 (strs [[105,110,116],[116,101,120,116]]):=rp [[105,110,116],[116,101,120,116]] d2 (by have:=bk.lt;omega);have d3:=Fk d6;have fz:Hid (w.heap.size≤w2.heap.size):=Fk (HK.out.trans ad).size;have et:Hid (xb≠w2.heap.size∧rb≠w2.heap.size):=Fk ⟨by have:=a7.out.lt;have:=ad.size;omega,by have:=a8.out.lt;have:=ad.size;omega⟩;have e7:Hid (b<w2.heap.size):=Fk bk.lt;have e3:Hid ((Value.slice A acc.length cv).ownBlock≠some w2.heap.size):=Fk (fun e=>by have:=(HO.out.lt _ e).2;have:=ad.size;omega);clear bk ad d2 d6 HC HP a7 a8 HO HK;go_wp2_with fail
  rcases h6:iu [[105,110,116],[116,101,120,116]] q1 with x|⟨k,q2⟩
  ·have HX:Hid (R= .error x):=Fk (by rw[←cr.out,←b8.out,h6];rfl)
   have HC:=Fk (rj h6 (some ⟨w2.heap.size+1,0,none⟩) 2 _ bj.out d3.out (by decide));clear h6;refine HC.out.mono ?_;rintro ev w9 ⟨⟨gi,rfl,hb⟩,a1⟩;exact ⟨rfl,by rw[HX.out];exact ⟨gi,rfl,hb⟩,d4.out.trans a1⟩
  have HC:=Fk (nl h6 (some ⟨w2.heap.size+1,0,none⟩) 2 _ bj.out d3.out (by decide));have cq:k=[105,110,116]∨k=[116,101,120,116]:=by
   obtain ⟨i,_,e8,e,_⟩:=nk h6;rw[e]
   match i,e8 with
   | 0,_=>exact .inl rfl
   | 1,_=>exact .inr rfl
  have bz:Hid ((if bC [44] q2 then dD n q2.tail (acc++[⟨s,if k=[116,101,120,116] then 2 else 1⟩]) else .ok (acc++[⟨s,if k=[116,101,120,116] then 2 else 1⟩],q2))=S):=Fk (by rw[←b8.out,h6];rfl);have fS:=eV h6;have a5:Hid (q2.length+2≤q.length):=Fk (by
   have h5':=f3.out;have dz:=bj.out.endT.pos;omega)
  clear h6 fS b8;generalize eX:w2.heap.size=cb at *;have f5:=Fk eX;clear eX;refine HC.out.mono ?_;rintro ev w5 ⟨rfl,ez,bX⟩;have HP5':=Fk ez;have HK5':=Fk (d4.out.trans bX);have HXB5':=Fk (bT bj.out bX cz.out (by decide));have HRB5':=Fk (bT bj.out bX c1.out (by decide));have HCB5':=Fk (bT bj.out bX c5.out (by decide));have HO5':=Fk (gy d5.out bj.out bX (by decide));clear ez bX HC bj d4 cz c1 d5 c5 d3;rcases cq with rfl|rfl
  ·have bb:Hid ((if bC [44] q2 then dD n q2.tail (acc++[⟨s,1⟩]) else .ok (acc++[⟨s,1⟩],q2))=S):=Fk bz.out
   clear bz;go_upto_region 12 with (fail)
   have bZ:=HP5';have bc:=HK5';have I:=HXB5';have a0:=HRB5';have U:=HCB5';have av:=HO5';clear HP5' HK5' HXB5' HRB5' HCB5' HO5';have co:=Fk (show acc.length+1≤maxLen∧(acc.length+1)*24≤140737488355328 by have:=HL.out;simp only[maxLen];omega);have c7:=I.out.frozen 2;have x2:w5.cell? ⟨xb,2,none⟩=some (FD A acc.length cv):=I.out.cell 2;have lx:=I.out.lt;have q0:w5.cell? ⟨cb,0,none⟩=some (FC (bs s)):=U.out.cell 0;have q1:w5.cell? ⟨cb,1,none⟩=some (FH FI 1):=U.out.cell 1;have lc:=U.out.lt;have dq:=Fk (show w.heap.size≤w5.heap.size+1 from Nat.le_succ_of_le bc.out.size);go_wp2_with (at_builtin;refine wpList_append_lies _ rfl _ _ 51 rfl _ 64 i0 _ 2 24 Tryz.underlying51 hi ey eY d7 rfl (by decide) _ acc.length (ai acc) rfl (av.out.alloc _) ⟨w5.heap.size,0,none⟩ 1 1 [FC (bs s),FH FI 1] rfl rfl (Fx (heap_alloc_new _ _)) (by simp[Value.oneCell']) (by decide) co.out.1 co.out.2 (by simp;exact dq.out) _ rfl ?_)
   intro gw cn w8 J D ci cm;have cd:=(bZ.out.keep ((Fz _ _).alloc (FG #[FC (bs s),FH FI 1] 64))).grown D (fun x hx=>(aL av.out x hx).keep ((Fz [] _).alloc _) (by simp)) (by decide) (by decide);have N:ao w8 xb 57 #[FH FI M,FC (bs nm),FD A acc.length cv]:=(D.block xb ((I.out.alloc _).lt) (fun e=>(aL av.out xb e.symm).ne I.out.ty (by decide) rfl)).trans (I.out.alloc _);have be:ao w8 rb 57 #[FH FI 0,FC ⟨#[]⟩,FD none 0 0]:=(D.block rb ((a0.out.alloc _).lt) (fun e=>(aL av.out rb e.symm).ne a0.out.ty (by decide) rfl)).trans (a0.out.alloc _);have b6:=(bc.out.alloc (FG #[FC (bs s),FH FI 1] 64)).grown D (fun g hg=> .inr (av.out.lt g hg).1);rw[←mD] at J;have fc:=N.frozen 2;have x8:w8.cell? ⟨xb,2,none⟩=some (FD A acc.length cv):=N.cell 2;have fb:=N.lt;obtain ⟨u,hu⟩:∃ u,Value.slice (some ⟨gw,0,none⟩) (acc.length+1) cn=u:=⟨_,rfl⟩
   have O:=Fk (cd.set (i:=2) N (by decide) (by decide) u);have a2:=Fk ((N.set 2 u).congr (cs':= #[FH FI M,FC (bs nm),u]) rfl);have bq:Hid ((w8.setCell ⟨xb,2,none⟩ u).ownsRow w.heap.size 64 2 u (acc++[(⟨s,1⟩:Cl)]).length (ai (acc++[(⟨s,1⟩:Cl)]))):=Fk (by
    rw[Fo];rw[hu] at J;exact aE J (L:=[xb]) (aa.setCell (Fz _ _) (.inl (by simp)) _) (fun g hg hm=>by
     rw[List.mem_singleton.1 hm] at hg;exact (aL J xb hg).ne N.ty (by decide) rfl))
   have bt:=Fk (b6.setCell (p:=⟨xb,2,none⟩) (.inr ct.out) u);have a4:=Fk (be.far (p:=⟨xb,2,none⟩) b1.out.1 u);obtain ⟨w9,bv⟩:∃ x,w8.setCell ⟨xb,2,none⟩ u=x:=⟨_,rfl⟩
   rw[bv] at O a2 bq bt a4;have dv:=Fk bv;have HU:=Fk hu;clear J D ci cm cd b6 q0 q1 lc x2 c7 lx hu bv be;clear bZ av U I bc;go_upto_region 7 with (fail)
   rw[HU.out,dv.out];have HT:=eT [44] w9 O.out
   cases hs:bC [44] q2 with
   | false =>
    rw[hs] at HT;have a3:=Fk HT;have b0:Hid (S= .ok (acc++[⟨s,1⟩],q2)):=Fk (by rw[←bb.out,hs];rfl);clear HT hs;go_wp2_with fail
    refine a3.out.mono ?_;rintro ev V ⟨rfl,hp,Z⟩;have aA:Hid (Ps V b q2):=Fk hp;have br:=Fk (bT O.out Z a2.out (by decide));have bo:=Fk (bT O.out Z a4.out (by decide));have a6:=Fk (gy bq.out O.out Z (by decide));have ba:=Fk (bt.out.trans Z);clear hp Z a3;go_wp2;go_roundw
    case rel=>exact ⟨false,acc++[⟨s,1⟩],q2,0,u,rfl,Fk (fun h=>by cases h),Fk (fun _=>b0.out),by have:=a5.out;simp;omega,aA,br,bo,a6,ba⟩
    case measure=>have:=a5.out;rw[aA.out.left,HM.out];omega
   | true =>
    rw[hs,if_pos rfl] at HT;have a3:=Fk HT;have ce:q2.tail.length=q2.length-1:=List.length_tail;have bm:=Fk ce;have cj:Hid (dD n q2.tail (acc++[⟨s,1⟩])=S):=Fk (by rw[←bb.out,hs];rfl);clear HT hs ce;go_wp2_with fail
    refine a3.out.mono ?_;rintro ev V ⟨rfl,hp,Z⟩;have aA:=Fk hp;have br:=Fk (bT O.out Z a2.out (by decide));have bo:=Fk (bT O.out Z a4.out (by decide));have a6:=Fk (gy bq.out O.out Z (by decide));have ba:=Fk (bt.out.trans Z);clear hp Z a3;go_wp2;go_roundw
    case rel=>exact ⟨true,acc++[⟨s,1⟩],q2.tail,n,u,rfl,Fk (fun _=>⟨cj.out,by have:=a5.out;have:=bm.out;omega⟩),Fk (fun h=>by cases h),by have:=a5.out;have:=bm.out;simp;omega,aA,br,bo,a6,ba⟩
    case measure=>have:=a5.out;have:=bm.out;rw[aA.out.left,HM.out];omega
  have bb:Hid ((if bC [44] q2 then dD n q2.tail (acc++[⟨s,2⟩]) else .ok (acc++[⟨s,2⟩],q2))=S):=Fk bz.out;clear bz;have e9:w5.cell? ⟨cb,1,none⟩=some (FH FI 1):=HCB5'.out.cell 1;have ff:=HCB5'.out.frozen 1;have fr:=HCB5'.out.lt;go_upto_region 12 with (fail)
  have bZ:=Fk (HP5'.out.setNew (i:=1) e7.out (FH FI 2));have bc:=Fk (HK5'.out.setCell (p:=⟨cb,1,none⟩) (.inr fz.out) (FH FI 2));have I:=Fk (HXB5'.out.far (p:=⟨cb,1,none⟩) et.out.1 (FH FI 2));have a0:=Fk (HRB5'.out.far (p:=⟨cb,1,none⟩) et.out.2 (FH FI 2));have U:=Fk ((HCB5'.out.set 1 (FH FI 2)).congr (cs':= #[FC (bs s),FH FI 2]) rfl);have av:Hid ((w5.setCell ⟨cb,1,none⟩ (FH FI 2)).ownsRow w.heap.size 64 2 (FD A acc.length cv) acc.length (ai acc)):=Fk (aE HO5'.out (L:=[cb]) (aa.setCell (Fz _ _) (.inl (by simp)) _) (fun g hg hm=>e3.out (by rw[←List.mem_singleton.1 hm];exact hg)));obtain ⟨w6,el⟩:∃ x,w5.setCell ⟨cb,1,none⟩ (FH FI 2)=x:=⟨_,rfl⟩
  rw[el] at bZ bc I a0 U av ⊢;clear el e9 ff fr HP5' HK5' HXB5' HRB5' HCB5' HO5';have co:=Fk (show acc.length+1≤maxLen∧(acc.length+1)*24≤140737488355328 by have:=HL.out;simp only[maxLen];omega);have c7:=I.out.frozen 2;have x2:w6.cell? ⟨xb,2,none⟩=some (FD A acc.length cv):=I.out.cell 2;have lx:=I.out.lt;have q0:w6.cell? ⟨cb,0,none⟩=some (FC (bs s)):=U.out.cell 0;have q1:w6.cell? ⟨cb,1,none⟩=some (FH FI 2):=U.out.cell 1;have lc:=U.out.lt;have dq:=Fk (show w.heap.size≤w6.heap.size+1 from Nat.le_succ_of_le bc.out.size);go_wp2_with (at_builtin;refine wpList_append_lies _ rfl _ _ 51 rfl _ 64 i0 _ 2 24 Tryz.underlying51 hi ey eY d7 rfl (by decide) _ acc.length (ai acc) rfl (av.out.alloc _) ⟨w6.heap.size,0,none⟩ 1 1 [FC (bs s),FH FI 2] rfl rfl (Fx (heap_alloc_new _ _)) (by simp[Value.oneCell']) (by decide) co.out.1 co.out.2 (by simp;exact dq.out) _ rfl ?_)
  intro gw cn w8 J D ci cm;have cd:=(bZ.out.keep ((Fz _ _).alloc (FG #[FC (bs s),FH FI 2] 64))).grown D (fun x hx=>(aL av.out x hx).keep ((Fz [] _).alloc _) (by simp)) (by decide) (by decide);have N:ao w8 xb 57 #[FH FI M,FC (bs nm),FD A acc.length cv]:=(D.block xb ((I.out.alloc _).lt) (fun e=>(aL av.out xb e.symm).ne I.out.ty (by decide) rfl)).trans (I.out.alloc _);have be:ao w8 rb 57 #[FH FI 0,FC ⟨#[]⟩,FD none 0 0]:=(D.block rb ((a0.out.alloc _).lt) (fun e=>(aL av.out rb e.symm).ne a0.out.ty (by decide) rfl)).trans (a0.out.alloc _);have b6:=(bc.out.alloc (FG #[FC (bs s),FH FI 2] 64)).grown D (fun g hg=> .inr (av.out.lt g hg).1);rw[←mD] at J;have fc:=N.frozen 2;have x8:w8.cell? ⟨xb,2,none⟩=some (FD A acc.length cv):=N.cell 2;have fb:=N.lt;obtain ⟨u,hu⟩:∃ u,Value.slice (some ⟨gw,0,none⟩) (acc.length+1) cn=u:=⟨_,rfl⟩
  have O:=Fk (cd.set (i:=2) N (by decide) (by decide) u);have a2:=Fk ((N.set 2 u).congr (cs':= #[FH FI M,FC (bs nm),u]) rfl);have bq:Hid ((w8.setCell ⟨xb,2,none⟩ u).ownsRow w.heap.size 64 2 u (acc++[(⟨s,2⟩:Cl)]).length (ai (acc++[(⟨s,2⟩:Cl)]))):=Fk (by
   rw[Fo];rw[hu] at J;exact aE J (L:=[xb]) (aa.setCell (Fz _ _) (.inl (by simp)) _) (fun g hg hm=>by
    rw[List.mem_singleton.1 hm] at hg;exact (aL J xb hg).ne N.ty (by decide) rfl))
  have bt:=Fk (b6.setCell (p:=⟨xb,2,none⟩) (.inr ct.out) u);have a4:=Fk (be.far (p:=⟨xb,2,none⟩) b1.out.1 u);obtain ⟨w9,bv⟩:∃ x,w8.setCell ⟨xb,2,none⟩ u=x:=⟨_,rfl⟩
  rw[bv] at O a2 bq bt a4;have dv:=Fk bv;have HU:=Fk hu;clear J D ci cm cd b6 q0 q1 lc x2 c7 lx hu bv be;clear bZ av U I bc;go_upto_region 7 with (fail)
  rw[HU.out,dv.out];have HT:=eT [44] w9 O.out
  cases hs:bC [44] q2 with
  | false =>
   rw[hs] at HT;have a3:=Fk HT;have b0:Hid (S= .ok (acc++[⟨s,2⟩],q2)):=Fk (by rw[←bb.out,hs];rfl);clear HT hs;go_wp2_with fail
   refine a3.out.mono ?_;rintro ev V ⟨rfl,hp,Z⟩;have aA:Hid (Ps V b q2):=Fk hp;have br:=Fk (bT O.out Z a2.out (by decide));have bo:=Fk (bT O.out Z a4.out (by decide));have a6:=Fk (gy bq.out O.out Z (by decide));have ba:=Fk (bt.out.trans Z);clear hp Z a3;go_wp2;go_roundw
   case rel=>exact ⟨false,acc++[⟨s,2⟩],q2,0,u,rfl,Fk (fun h=>by cases h),Fk (fun _=>b0.out),by have:=a5.out;simp;omega,aA,br,bo,a6,ba⟩
   case measure=>have:=a5.out;rw[aA.out.left,HM.out];omega
  | true =>
   rw[hs,if_pos rfl] at HT;have a3:=Fk HT;have ce:q2.tail.length=q2.length-1:=List.length_tail;have bm:=Fk ce;have cj:Hid (dD n q2.tail (acc++[⟨s,2⟩])=S):=Fk (by rw[←bb.out,hs];rfl);clear HT hs ce;go_wp2_with fail
   refine a3.out.mono ?_;rintro ev V ⟨rfl,hp,Z⟩;have aA:=Fk hp;have br:=Fk (bT O.out Z a2.out (by decide));have bo:=Fk (bT O.out Z a4.out (by decide));have a6:=Fk (gy bq.out O.out Z (by decide));have ba:=Fk (bt.out.trans Z);clear hp Z a3;go_wp2;go_roundw
   case rel=>exact ⟨true,acc++[⟨s,2⟩],q2.tail,n,u,rfl,Fk (fun _=>⟨cj.out,by have:=a5.out;have:=bm.out;omega⟩),Fk (fun h=>by cases h),by have:=a5.out;have:=bm.out;simp;omega,aA,br,bo,a6,ba⟩
   case measure=>have:=a5.out;have:=bm.out;rw[aA.out.left,HM.out];omega
def bY (j:Jb) (v2 v3 v4:Value):Array Value :=
 #[FH FI j.at_,FH FI j.code,v2,v3,v4,FC (bs j.op),FC (bs j.left.col),FH FI j.left.val.kind,FH FI j.left.val.num,FC (bs j.left.val.word),FC (bs j.right.col),FH FI j.right.val.kind,FH FI j.right.val.num,FC (bs j.right.val.word),FH FI j.retry]
def cA (u v:Value):Prop:=∀ g,u.ownBlock=some g→v.ownBlock≠some g
theorem cA.symm {u v:Value} (h:cA u v):cA v u:=fun g D I=>h g I D
structure aV (W:World) (base jb:Nat) (j:Jb) (v2 v3 v4:Value):Prop where
 blk:ao W jb 50 (bY j v2 v3 v4)
 o2:W.ownsRow base 9 1 v2 j.outs.length (strs j.outs)
 o3:W.ownsRow base 9 1 v3 j.ins.length (strs j.ins)
 o4:W.ownsRow base 9 1 v4 j.cols.length (strs j.cols)
 n23:cA v2 v3
 n24:cA v2 v4
 n34:cA v3 v4
section
variable {W W' W7 w0:World} {base jb b g H cap n size:Nat} {j:Jb} {v2 v3 v4 u:Value} {l:List Tk} {a:Bs} {o:Obj} {L:List Nat} {xs:List Value} {e:TypeId}
theorem cf {t:TypeId} (h:W.ownsRow base e size u n xs) (D:aa L W W') (N:∀ x∈L,dP W x t) (M:e≠t):W'.ownsRow base e size u n xs :=
 aE h D (fun g I J=>(aL h g I).ne (N g J) M rfl)
theorem aV.far {t:TypeId} (h:aV W base jb j v2 v3 v4) (D:aa L W W') (I:∀ x∈L,dP W x t) (J:9≠t) (N:50≠t):aV W' base jb j v2 v3 v4 :=
 ⟨h.blk.keep D (fun M=>h.blk.ty.ne (I jb M) N rfl),cf h.o2 D I J,cf h.o3 D I J,cf h.o4 D I J,h.n23,h.n24,h.n34⟩
theorem aV.keep (h:aV W base jb j v2 v3 v4) (I:aa [] W W'):aV W' base jb j v2 v3 v4 :=
 h.far (t:=3) I (fun x D=>by cases D) (by decide) (by decide)
theorem aV.ps (h:aV W base jb j v2 v3 v4) (I:Ps W b l) (D:aa [b] W W'):aV W' base jb j v2 v3 v4 :=
 h.far D (fun x J=>by rw[List.mem_singleton.1 J];exact I.ty) (by decide) (by decide)
theorem aV.box {D:Jb} (h:aV W base jb j v2 v3 v4) (I:aa [jb] W W') (N:ao W' jb 50 (bY D v2 v3 v4)) (O:D.outs=j.outs) (V:D.ins=j.ins) (M:D.cols=j.cols):aV W' base jb D v2 v3 v4:=by
 have J:∀ x∈[jb],dP W x 50:=fun x U=>by rw[List.mem_singleton.1 U];exact h.blk.ty
 refine ⟨N,?_,?_,?_,h.n23,h.n24,h.n34⟩
 ·rw[O];exact cf h.o2 I J (by decide)
 ·rw[V];exact cf h.o3 I J (by decide)
 rw[M];exact cf h.o4 I J (by decide)
theorem Ps.box (I:Ps W b l) (h:aV W base jb j v2 v3 v4) (D:aa [jb] W W'):Ps W' b l :=
 I.far D (fun x J=>⟨50,by rw[List.mem_singleton.1 J];exact h.blk.ty,by decide,by decide⟩)
theorem aa.box (h:aa [b] w0 W) (D:w0.heap.size≤jb) (I:aa [jb] W W'):aa [b] w0 W' :=
 h.trans' I (fun x J M=>by rw[List.mem_singleton.1 J] at M;omega)
theorem aV.put4 {cs:List Bs} (h:aV W base jb j v2 v3 v4) (M:W.ownsRow base 9 1 u cs.length (strs cs)) (O:cA v2 u) (J:cA v3 u):aV (W.setCell ⟨jb,4,none⟩ u) base jb { j with cols:=cs } v2 v3 u:=by
 have D:aa [jb] W (W.setCell ⟨jb,4,none⟩ u):=(Fz _ _).setCell (.inl (by simp)) _;have I:∀ x∈[jb],dP W x 50:=fun x N=>by rw[List.mem_singleton.1 N];exact h.blk.ty
 exact ⟨(h.blk.set 4 u).congr rfl,cf h.o2 D I (by decide),cf h.o3 D I (by decide),cf M D I (by decide),h.n23,O,J⟩
theorem aV.put2 {cs:List Bs} (h:aV W base jb j v2 v3 v4) (N:W.ownsRow base 9 1 u cs.length (strs cs)) (J:cA u v3) (M:cA u v4):aV (W.setCell ⟨jb,2,none⟩ u) base jb { j with outs:=cs } u v3 v4:=by
 have D:aa [jb] W (W.setCell ⟨jb,2,none⟩ u):=(Fz _ _).setCell (.inl (by simp)) _;have I:∀ x∈[jb],dP W x 50:=fun x O=>by rw[List.mem_singleton.1 O];exact h.blk.ty
 exact ⟨(h.blk.set 2 u).congr rfl,cf N D I (by decide),cf h.o3 D I (by decide),cf h.o4 D I (by decide),J,M,h.n34⟩
theorem cA.new (h:W.ownsRow base e size u n xs) (J:∀ g,v2.ownBlock=some g→W.heap.size≤g):cA u v2:=fun g I D=>by
 have N:=(h.lt g I).2;have M:=J g D;omega
theorem kX (h:W.ownsRow base e size v2 n xs) (I:(W.alloc o).grownBy W7 u.ownBlock) (M:cA v2 u):W7.ownsRow base e size v2 n xs :=
 aE (L:=u.ownBlock.toList) (h.alloc o) (aa.grown (Fz _ _) I (fun g I=> .inl (by rw[I];simp))) (fun g N D=>by
  have:u.ownBlock=some g:=by
   cases J:u.ownBlock with
   | none=>rw[J] at D;cases D
   | some x=>rw[J] at D;simp at D;rw[D]
  exact M g N this)
theorem jH {M:Value} {p q:Nat} (h:W.ownsRow base e size v2 n xs) (U:cA v2 u) (V:M=FD (some ⟨g,0,none⟩) p q) (J:u.ownBlock=some g∨g=H) (Z:W.heap.size≤H):cA v2 M:=fun x N D=>by
 subst V;have I:g=x:=by simpa[Value.ownBlock] using D
 subst I;rcases J with O|O
 ·exact U _ N O
 have:=(h.lt _ N).2;omega
end
section
variable {W W' W7 w0:World} {base jb b g H cap m:Nat} {j:Jb} {v2 v3 v4 u:Value} {l:List Tk} {a:Bs} {o:Obj}
theorem sH (h:aV W base jb j v2 v3 v4) {v:Value} (D:(W.alloc o).grownBy W7 v.ownBlock) (I:∀ x,v.ownBlock=some x→dP W x 9):ao W7 jb 50 (bY j v2 v3 v4) :=
 (D.block jb (h.blk.alloc o).lt (fun e=>(I jb e.symm).ne h.blk.ty (by decide) rfl)).trans (h.blk.alloc o)
theorem sI (h:Ps W b l) {v:Value} (D:(W.alloc o).grownBy W7 v.ownBlock) (J:∀ x,v.ownBlock=some x→dP W x 9):Ps W7 b l :=
 (h.keep ((Fz _ _).alloc o)).grown D (fun x I=>(J x I).keep ((Fz [] _).alloc o) (by simp)) (by decide) (by decide)
theorem aV.app3 (h:aV W base jb j v2 v3 v4) (hp:Ps W b l) (Z:aa [b] w0 W) (hb:base=w0.heap.size) (V:base≤jb) (I:(W.alloc o).grownBy W7 v3.ownBlock) (hu:u=FD (some ⟨g,0,none⟩) m cap) (D:W7.ownsRow base 9 1 u (j.ins.length+1) (strs j.ins++[FC (bs a)])) (J:v3.ownBlock=some g∨g=H) (hH:W.heap.size≤H) :
  aV (W7.setCell ⟨jb,3,none⟩ u) base jb { j with ins:=j.ins++[a] } v2 u v4∧Ps (W7.setCell ⟨jb,3,none⟩ u) b l∧aa [b] w0 (W7.setCell ⟨jb,3,none⟩ u):=by
 have M:=sH h I (aL h.o3);have O:aa [jb] W7 (W7.setCell ⟨jb,3,none⟩ u):=(Fz _ _).setCell (.inl (by simp)) _;have U:∀ x∈[jb],dP W7 x 50:=fun x N=>by rw[List.mem_singleton.1 N];exact M.ty
 rw[←fB] at D;have hown':W7.ownsRow base 9 1 u (j.ins++[a]).length (strs (j.ins++[a])):=by rw[Fo];exact D
 refine ⟨⟨(M.set 3 u).congr rfl,cf (kX h.o2 I h.n23) O U (by decide),cf hown' O U (by decide),cf (kX h.o4 I h.n34.symm) O U (by decide),?_,h.n24,?_⟩,?_,?_⟩
 ·exact jH h.o2 h.n23 hu J hH
 ·exact (jH h.o4 h.n34.symm hu J hH).symm
 ·exact (sI hp I (aL h.o3)).far O (fun x N=>⟨50,U x N,by decide,by decide⟩)
 exact ((Z.alloc o).grown I (fun x N=> .inr (by rw[←hb];exact (h.o3.lt x N).1))).setCell (.inr (by rw[←hb];exact V)) _
theorem aV.app4 (h:aV W base jb j v2 v3 v4) (hp:Ps W b l) (Z:aa [b] w0 W) (hb:base=w0.heap.size) (V:base≤jb) (I:(W.alloc o).grownBy W7 v4.ownBlock) (hu:u=FD (some ⟨g,0,none⟩) m cap) (D:W7.ownsRow base 9 1 u (j.cols.length+1) (strs j.cols++[FC (bs a)])) (J:v4.ownBlock=some g∨g=H) (hH:W.heap.size≤H) :
  aV (W7.setCell ⟨jb,4,none⟩ u) base jb { j with cols:=j.cols++[a] } v2 v3 u∧Ps (W7.setCell ⟨jb,4,none⟩ u) b l∧aa [b] w0 (W7.setCell ⟨jb,4,none⟩ u):=by
 have M:=sH h I (aL h.o4);have O:aa [jb] W7 (W7.setCell ⟨jb,4,none⟩ u):=(Fz _ _).setCell (.inl (by simp)) _;have U:∀ x∈[jb],dP W7 x 50:=fun x N=>by rw[List.mem_singleton.1 N];exact M.ty
 rw[←fB] at D;have hown':W7.ownsRow base 9 1 u (j.cols++[a]).length (strs (j.cols++[a])):=by rw[Fo];exact D
 refine ⟨⟨(M.set 4 u).congr rfl,cf (kX h.o2 I h.n24) O U (by decide),cf (kX h.o3 I h.n34) O U (by decide),cf hown' O U (by decide),h.n23,?_,?_⟩,?_,?_⟩
 ·exact jH h.o2 h.n24 hu J hH
 ·exact jH h.o3 h.n34 hu J hH
 ·exact (sI hp I (aL h.o4)).far O (fun x N=>⟨50,U x N,by decide,by decide⟩)
 exact ((Z.alloc o).grown I (fun x N=> .inr (by rw[←hb];exact (h.o4.lt x N).1))).setCell (.inr (by rw[←hb];exact V)) _
end
theorem aa.undrew {w w':World} {L:List Nat} (h:aa L w.drew w'):aa L w w':=⟨h.os,h.output,h.size,h.block⟩
theorem cS {Q:Exit→Act→World→Prop} {c} {h:Act} {w:World} {F K:Act→World→Prop} (_:∀ a w,F a w→K a w) (d:Option Nat) (v:Value) (D:Q (.panic c) h w) (_:Hid False→F (h.put d v) w):Q (.panic c) h w:=D
theorem wA {r q:List Tk} {v u:Vl} (h:kr r v= .ok (u,q)):q.length≤r.length:=by
 unfold kr at h;split at h
 ·injection h with h
  injection h with _ h;rw[←h,List.length_tail];omega
 cases h
theorem sJ {D:Bool} {r q:List Tk} {u:Vl} (h:eS D r= .ok (u,q)):q.length≤r.length:=by
 unfold eS at h;split at h
 ·cases h
 split at h
 ·exact wA h
 split at h
 ·split at h
  ·exact wA h
  cases h
 cases h
theorem jI {l r:List Tk} {a:Ar} (h:lK l= .ok (a,r)):r.length≤l.length:=by
 unfold lK at h;split at h
 ·rcases D:aQ l with x|⟨s,I⟩
  ·rw[D] at h;cases h
  rw[D,ar] at h;injection h with h;injection h with _ h;rw[←h,az D];omega
 rcases D:iq l with x|⟨v,I⟩
 ·rw[D] at h;cases h
 rw[D,ar] at h;injection h with h;injection h with _ h;rw[←h];unfold iq at D;split at D
 ·exact Ft (sJ D) (by rw[List.length_tail];omega)
 exact sJ D
def gb (R:Except (Int×Int) (Jb×List Tk)) (b base jb:Nat) (e:Ending) (w':World):Prop:=match R with
 | .ok (j,r)=>e=FF (.tuple #[])∧(∃ v2 v3 v4,aV w' base jb j v2 v3 v4)∧Ps w' b r
 | .error x=>bS x e w'
theorem qn {l:List Tk} {b jb lo:Nat} {v2 v3 v4:Value} (av code:Int) (outs ins cols:List Bs) (op:Bs) (left right:Ar) (O:Int) (w0 w:World) (hE:FB w0 lo) (a1:lo≤b) (h:Ps w b l) (hk:aa [b] w0 w) (a3:w0.heap.size≤jb) (hj:aV w w0.heap.size jb ⟨av,code,outs,ins,cols,op,left,right,O⟩ v2 v3 v4) (a7:ins.length≤1000000) (a5:cols.length≤1000000) (a8:l.length≤1000000) :
  Calls Tryz.prog 154 #[FE (some ⟨b,0,none⟩),FE (some ⟨jb,0,none⟩)] w fun e w'=>gb (ei ⟨av,code,outs,ins,cols,op,left,right,O⟩ l) b w0.heap.size jb e w'∧aa [b] w0 w':=by
 obtain ⟨i0,hi,b9,ca,b8⟩:=info_parts kV;obtain ⟨R,hR⟩:∃ R,ei ⟨av,code,outs,ins,cols,op,left,right,O⟩ l=R:=⟨_,rfl⟩
 rw[hR];unfold ei at hR;try unfold xF at hR
 have HR:=Fk hR;have HE:=Fk hE;have J:=Fk h;have N:=Fk hk;have D:=Fk hj;have aA:=Fk a3;have b6:=Fk a7;have b7:=Fk a5;have b5:=Fk a8;have U:=Fk (Fm l.length);clear hR hE h hk hj a7 a5 a8 a3;go_enter Tryz.func154,Tryz.ntmps154
 rcases I:aR [119,104,101,114,101] l with x|r1
 ·have H:=HR.out
  rw[I,au] at H;have HX:=Fk H.symm;have Z:=Fk (cO I w J.out);clear H I;go_wp2_with fail
  refine Z.out.mono ?_;rintro ev w9 ⟨⟨gi,rfl,hb⟩,ad⟩;exact ⟨rfl,by rw[HX.out];exact ⟨gi,rfl,hb⟩,N.out.trans ad⟩
 have H:=HR.out;rw[I,ar] at H;try dsimp only at H
 clear HR;have HR:=Fk H;clear H;have Z:=Fk (aT I w J.out);have V:Hid (r1.length≤l.length):=Fk (by have:=U.out;have:=aD I;omega);clear I U;have U:=V;clear V;go_wp2_with fail
 refine Z.out.mono ?_;rintro ev y1 ⟨rfl,hp,hk⟩;have HJ':=Fk (D.out.ps J.out hk);have HK':=Fk (N.out.trans hk);clear J D N Z;have J:=Fk hp;have D:=HJ';have N:=HK';clear hp hk HJ' HK';rcases I:aQ r1 with x|⟨a2,r2⟩
 ·have H:=HR.out
  rw[I,au] at H;have HX:=Fk H.symm;have Z:=Fk (bN I y1 J.out);clear H I;go_wp2_with fail
  refine Z.out.mono ?_;rintro ev w9 ⟨⟨gi,rfl,hb⟩,ad⟩;exact ⟨rfl,by rw[HX.out];exact ⟨gi,rfl,hb⟩,N.out.trans ad⟩
 have H:=HR.out;rw[I,ar] at H;try dsimp only at H
 clear HR;have HR:=Fk H;clear H;have Z:=Fk (bi I y1 J.out);have V:Hid (r2.length≤l.length):=Fk (by have:=U.out;have:=az I;omega);clear I U;have U:=V;clear V;go_wp2_with fail
 refine Z.out.mono ?_;rintro ev y2 ⟨rfl,hp,hk⟩;have HJ':=Fk (D.out.ps J.out hk);have HK':=Fk (N.out.trans hk);clear J D N Z;have J:=Fk hp;have D:=HJ';have N:=HK';clear hp hk HJ' HK';have bj:=D.out.blk.frozen 6;have bk:y2.cell? ⟨jb,6,none⟩=some (FC (bs left.col)):=D.out.blk.cell 6;have bm:=D.out.blk.frozen 7;have bt:y2.cell? ⟨jb,7,none⟩=some (FH FI left.val.kind):=D.out.blk.cell 7;have a9:=D.out.blk.frozen 8;have bc:y2.cell? ⟨jb,8,none⟩=some (FH FI left.val.num):=D.out.blk.cell 8;have bq:=D.out.blk.frozen 9;have br:y2.cell? ⟨jb,9,none⟩=some (FC (bs left.val.word)):=D.out.blk.cell 9;have lj:=D.out.blk.lt;have M:aa [jb] y2 ((((y2.setCell ⟨jb,6,none⟩ (FC (bs a2))).setCell ⟨jb,7,none⟩ (FH FI 0)).setCell ⟨jb,8,none⟩ (FH FI 0)).setCell ⟨jb,9,none⟩ (FC ⟨#[]⟩)):=((((Fz _ _).setCell (.inl (by simp)) _).setCell (.inl (by simp)) _).setCell (.inl (by simp)) _).setCell (.inl (by simp)) _;have HJ':Hid (aV ((((y2.setCell ⟨jb,6,none⟩ (FC (bs a2))).setCell ⟨jb,7,none⟩ (FH FI 0)).setCell ⟨jb,8,none⟩ (FH FI 0)).setCell ⟨jb,9,none⟩ (FC ⟨#[]⟩)) w0.heap.size jb (⟨av,code,outs,ins,cols,op,⟨a2,zV⟩,right,O⟩:Jb) v2 v3 v4):=Fk (D.out.box M (((((D.out.blk.set 6 (FC (bs a2))).set 7 (FH FI 0)).set 8 (FH FI 0)).set 9 (FC ⟨#[]⟩)).congr (by rfl)) rfl rfl rfl);have HP':=Fk (J.out.box D.out M);have HK':=Fk (N.out.box aA.out M);clear M;go_upto_region 2 with (fail)
 obtain ⟨y3,hy⟩:∃ x,((((y2.setCell ⟨jb,6,none⟩ (FC (bs a2))).setCell ⟨jb,7,none⟩ (FH FI 0)).setCell ⟨jb,8,none⟩ (FH FI 0)).setCell ⟨jb,9,none⟩ (FC ⟨#[]⟩))=x:=⟨_,rfl⟩
 rw[hy] at HJ' HP' HK' ⊢;clear hy bj bk bm bt a9 bc bq br lj D J N;have D:=HJ';have J:=HP';have N:=HK';clear HJ' HP' HK';have HJ':=Fk (D.out.keep ((Fz _ _).alloc (FG #[FC (bs [60,62]),FC (bs [60,61]),FC (bs [62,61]),FC (bs [60]),FC (bs [62]),FC (bs [61])] 9)));have HP':=Fk (J.out.keep ((Fz _ _).alloc (FG #[FC (bs [60,62]),FC (bs [60,61]),FC (bs [62,61]),FC (bs [60]),FC (bs [62]),FC (bs [61])] 9)));have HK':=Fk (N.out.alloc (FG #[FC (bs [60,62]),FC (bs [60,61]),FC (bs [62,61]),FC (bs [60]),FC (bs [62]),FC (bs [61])] 9));have a0:Hid (Rd (y3.alloc (FG #[FC (bs [60,62]),FC (bs [60,61]),FC (bs [62,61]),FC (bs [60]),FC (bs [62]),FC (bs [61])] 9)) [b] 1 (some ⟨y3.heap.size,0,none⟩) 6 (strs [[60,62],[60,61],[62,61],[60],[62],[61]])):=Fk (rp [[60,62],[60,61],[62,61],[60],[62],[61]] (FA y3 9 #[FC (bs [60,62]),FC (bs [60,61]),FC (bs [62,61]),FC (bs [60]),FC (bs [62]),FC (bs [61])]) (by have:=J.out.lt;omega));clear D J N;have D:=HJ';have J:=HP';have N:=HK';clear HJ' HP' HK';go_wp2_with fail
 rcases I:iu [[60,62],[60,61],[62,61],[60],[62],[61]] r2 with x|⟨a4,r4⟩
 ·have H:=HR.out
  rw[I,au] at H;have HX:=Fk H.symm;have Z:=Fk (rj I (some ⟨y3.heap.size,0,none⟩) 6 _ J.out a0.out (by decide));clear H I;skip
  refine Z.out.mono ?_;rintro ev w9 ⟨⟨gi,rfl,hb⟩,ad⟩;exact ⟨rfl,by rw[HX.out];exact ⟨gi,rfl,hb⟩,N.out.trans ad⟩
 have H:=HR.out;rw[I,ar] at H;try dsimp only at H
 clear HR;have HR:=Fk H;clear H;have Z:=Fk (nl I (some ⟨y3.heap.size,0,none⟩) 6 _ J.out a0.out (by decide));have V:Hid (r4.length≤l.length):=Fk (by have:=U.out;have:=eV I;omega);clear I a0 U;have U:=V;clear V;refine Z.out.mono ?_;rintro ev y4 ⟨rfl,hp,hk⟩;have HJ':=Fk (D.out.ps J.out hk);have HK':=Fk (N.out.trans hk);clear J D N Z;have J:=Fk hp;have D:=HJ';have N:=HK';clear hp hk HJ' HK';have be:=D.out.blk.frozen 5;have ba:y4.cell? ⟨jb,5,none⟩=some (FC (bs op)):=D.out.blk.cell 5;have lj:=D.out.blk.lt;have M:aa [jb] y4 (y4.setCell ⟨jb,5,none⟩ (FC (bs a4))):=(Fz _ _).setCell (.inl (by simp)) _;have HJ':Hid (aV (y4.setCell ⟨jb,5,none⟩ (FC (bs a4))) w0.heap.size jb (⟨av,code,outs,ins,cols,a4,⟨a2,zV⟩,right,O⟩:Jb) v2 v3 v4):=Fk (D.out.box M ((D.out.blk.set 5 (FC (bs a4))).congr (by rfl)) rfl rfl rfl);have HP':=Fk (J.out.box D.out M);have HK':=Fk (N.out.box aA.out M);clear M;go_upto_region 3 with (fail)
 obtain ⟨y5,hy⟩:∃ x,(y4.setCell ⟨jb,5,none⟩ (FC (bs a4)))=x:=⟨_,rfl⟩
 rw[hy] at HJ' HP' HK' ⊢;clear hy be ba lj D J N;have D:=HJ';have J:=HP';have N:=HK';clear HJ' HP' HK';have Z:=Fk (nS y5 (HE.out.one a1 N.out) a1 J.out);rcases I:lK r4 with x|⟨a6,r6⟩
 ·have H:=HR.out
  rw[I,au] at H;have HX:=Fk H.symm;have hc:=Z.out;rw[I] at hc;have bo:=Fk hc;clear H I hc Z;go_wp2_with fail
  refine bo.out.mono ?_;rintro ev w9 ⟨⟨gi,rfl,hb⟩,ad⟩;exact ⟨rfl,by rw[HX.out];exact ⟨gi,rfl,hb⟩,N.out.trans ad⟩
 have H:=HR.out;rw[I,ar] at H;try dsimp only at H
 clear HR;have HR:=Fk H;clear H;have hc:=Z.out;rw[I] at hc;clear Z;have Z:=Fk hc;have V:Hid (r6.length≤l.length):=Fk (Ft (jI I) U.out);clear I hc U;have U:=V;clear V;go_wp2_with fail
 refine Z.out.mono ?_;rintro ev y6 ⟨⟨he,hp⟩,hk⟩;have bb:ev=FF (.agg #[FC (bs a6.col),FH FI a6.val.kind,FH FI a6.val.num,FC (bs a6.val.word)]):=he;subst bb;clear he;have HJ':=Fk (D.out.ps J.out hk);have HK':=Fk (N.out.trans hk);clear J D N Z;have J:=Fk hp;have D:=HJ';have N:=HK';clear hp hk HJ' HK';have bZ:=D.out.blk.frozen 10;have b3:y6.cell? ⟨jb,10,none⟩=some (FC (bs right.col)):=D.out.blk.cell 10;have b0:=D.out.blk.frozen 11;have bz:y6.cell? ⟨jb,11,none⟩=some (FH FI right.val.kind):=D.out.blk.cell 11;have b4:=D.out.blk.frozen 12;have b1:y6.cell? ⟨jb,12,none⟩=some (FH FI right.val.num):=D.out.blk.cell 12;have bX:=D.out.blk.frozen 13;have bv:y6.cell? ⟨jb,13,none⟩=some (FC (bs right.val.word)):=D.out.blk.cell 13;have lj:=D.out.blk.lt;have M:aa [jb] y6 ((((y6.setCell ⟨jb,10,none⟩ (FC (bs a6.col))).setCell ⟨jb,11,none⟩ (FH FI a6.val.kind)).setCell ⟨jb,12,none⟩ (FH FI a6.val.num)).setCell ⟨jb,13,none⟩ (FC (bs a6.val.word))):=((((Fz _ _).setCell (.inl (by simp)) _).setCell (.inl (by simp)) _).setCell (.inl (by simp)) _).setCell (.inl (by simp)) _;have HJ':Hid (aV ((((y6.setCell ⟨jb,10,none⟩ (FC (bs a6.col))).setCell ⟨jb,11,none⟩ (FH FI a6.val.kind)).setCell ⟨jb,12,none⟩ (FH FI a6.val.num)).setCell ⟨jb,13,none⟩ (FC (bs a6.val.word))) w0.heap.size jb (⟨av,code,outs,ins,cols,a4,⟨a2,zV⟩,a6,O⟩:Jb) v2 v3 v4):=Fk (D.out.box M (((((D.out.blk.set 10 (FC (bs a6.col))).set 11 (FH FI a6.val.kind)).set 12 (FH FI a6.val.num)).set 13 (FC (bs a6.val.word))).congr (by rfl)) rfl rfl rfl);have HP':=Fk (J.out.box D.out M);have HK':=Fk (N.out.box aA.out M);clear M;have HX:=Fk HR.out.symm;clear HR;go_wp2;first|go_end0|refine bodyPost_ret (results_none rfl _ _ _) rfl ?_
 exact ⟨by rw[HX.out];exact ⟨rfl,⟨_,_,_,HJ'.out⟩,HP'.out⟩,HK'.out⟩
theorem zS {l:List Tk} {b jb lo:Nat} {v2 v3 v4:Value} (a8 code:Int) (outs ins cols:List Bs) (op:Bs) (left right:Ar) (ad:Int) (w0 w:World) (hE:FB w0 lo) (_:lo≤b) (h:Ps w b l) (hk:aa [b] w0 w) (bk:w0.heap.size≤jb) (hj:aV w w0.heap.size jb ⟨a8,code,outs,ins,cols,op,left,right,ad⟩ v2 v3 v4) (bq:ins.length≤1000000) (bm:cols.length≤1000000) (br:l.length≤1000000) :
  Calls Tryz.prog 153 #[FE (some ⟨b,0,none⟩),FE (some ⟨jb,0,none⟩)] w fun e w'=>gb (xG ⟨a8,code,outs,ins,cols,op,left,right,ad⟩ l) b w0.heap.size jb e w'∧aa [b] w0 w':=by
 obtain ⟨i0,hi,a7,a9,a6⟩:=info_parts kV;obtain ⟨R,hR⟩:∃ R,xG ⟨a8,code,outs,ins,cols,op,left,right,ad⟩ l=R:=⟨_,rfl⟩
 rw[hR];unfold xG at hR;try unfold xF at hR
 have HR:=Fk hR;have HE:=Fk hE;have J:=Fk h;have HK:=Fk hk;have I:=Fk hj;have bo:=Fk bk;have a5:=Fk bq;have bz:=Fk bm;have bZ:=Fk br;have Z:=Fk (Fm l.length);clear hR hE h hk hj bq bm br bk;go_enter Tryz.func153,Tryz.ntmps153
 go_upto_region 0 with (fail)
 obtain ⟨A1,c1,hv,-⟩:=aq I.out.o3;subst hv;have fS:w.cell? ⟨jb,3,none⟩=some (FD A1 (ins).length c1)∧w.frozen? ⟨jb,3,none⟩=false:=⟨I.out.blk.cell 3,I.out.blk.frozen 3⟩;have lj:=I.out.blk.lt;have V:=Fk (show (ins).length+1≤maxLen∧((ins).length+1)*16≤140737488355328 by have:=a5.out;simp only[maxLen];first|omega|(simp only[Fo,Fv,List.length_nil];omega));have a2:Hid (jb∉[b]):=Fk (by have:=I.out.blk.ty.ne J.out.ty (by decide);simpa using this);rcases O:aQ l with x|⟨a1,r1⟩
 ·have M:=HR.out
  rw[O,au] at M;have HX:=Fk M.symm;have HC:Hid (∀ W,aa [] w W→Calls Tryz.prog 80 #[FE (some ⟨b,0,none⟩)] W fun e w'=>bS x e w'∧aa [b] W w'):=Fk (fun W z=>bN O W (J.out.keep z));clear M O;go_wp2_with fail
  go_region_law (first|(refine step_append_lies _ (by rfl) _ _ _ (by rfl) w0.heap.size 9 i0 _ 1 16 Tryz.underlying44 hi a7 a9 a6 rfl (by decide) (FD A1 (ins).length c1) (ins).length (strs (ins)) (by rfl) ((I.out.ps J.out D.undrew).o3.alloc _) ⟨w6.heap.size,0,none⟩ 1 1 [FC (bs [])] (by rfl) rfl (Fx (heap_alloc_new _ _)) (by simp[Value.oneCell']) (by decide) V.out.1 V.out.2 (by have:=HK.out.size;have:=D.size;have h9:w.drew.heap.size=w.heap.size:=rfl;simp;omega) _ rfl ?_;intro gw cap w7 U H av a4;obtain ⟨ba,bc⟩:=aC H (aB ⟨N,a0⟩ _) (fun e=>(aL (I.out.ps J.out D.undrew).o3 jb e).ne (I.out.ps J.out D.undrew).blk.ty (by decide) rfl))|(go_simp;go_at_call 80;refine (HC.out _ (Fz [] w).drew).mono ?_;rintro e w6 ⟨⟨gi,rfl,hb⟩,D⟩;obtain ⟨N,a0⟩:=aH D fS a2.out;have bj:jb<w6.heap.size:=Fq w6 ⟨jb,3,none⟩ N;dsimp only;(go_loud (refine cS ‹∀ (a:Act) (w:World),wpAny _ _ _ _ _ _ a w→_› (some 10) (FC (bs [])) ⟨rfl,by rw[HX.out];exact ⟨gi,rfl,hb⟩,HK.out.trans D.undrew⟩ (fun hF=>?_)))))
  all_goals exact hF.out.elim
 have M:=HR.out;rw[O,ar] at M;try dsimp only at M
 clear HR;have HR:=Fk M;clear M;have HC:Hid (∀ W,aa [] w W→Calls Tryz.prog 80 #[FE (some ⟨b,0,none⟩)] W fun e w'=>e=FF (FC (bs a1))∧Ps w' b r1∧aa [b] W w'):=Fk (fun W z=>bi O W (J.out.keep z));have aA:Hid (r1.length≤l.length):=Fk (by have:=Z.out;have:=az O;omega);clear Z;have Z:=aA;clear aA;clear O;go_cut [] (fun wx=>∃ bt,aV wx w0.heap.size jb (⟨a8,code,outs,ins++[a1],cols,op,left,right,ad⟩:Jb) v2 bt v4∧Ps wx b r1∧aa [b] w0 wx)
 case first =>
  go_region_law (first|(refine step_append_lies _ (by rfl) _ _ _ (by rfl) w0.heap.size 9 i0 _ 1 16 Tryz.underlying44 hi a7 a9 a6 rfl (by decide) (FD A1 (ins).length c1) (ins).length (strs (ins)) (by rfl) ((I.out.ps J.out D.undrew).o3.alloc _) ⟨w6.heap.size,0,none⟩ 1 1 [FC (bs a1)] (by rfl) rfl (Fx (heap_alloc_new _ _)) (by simp[Value.oneCell']) (by decide) V.out.1 V.out.2 (by have:=HK.out.size;have:=D.size;have h9:w.drew.heap.size=w.heap.size:=rfl;simp;omega) _ rfl ?_;intro gw cap w7 U H av a4;obtain ⟨ba,bc⟩:=aC H (aB ⟨N,a0⟩ _) (fun e=>(aL (I.out.ps J.out D.undrew).o3 jb e).ne (I.out.ps J.out D.undrew).blk.ty (by decide) rfl))|(go_simp;go_at_call 80;refine (HC.out _ (Fz [] w).drew).mono ?_;rintro e w6 ⟨rfl,bb,D⟩;obtain ⟨N,a0⟩:=aH D fS a2.out;have bj:jb<w6.heap.size:=Fq w6 ⟨jb,3,none⟩ N))
  all_goals
   go_wp2;go_meet;have hh:=aV.app3 (I.out.ps J.out D.undrew) bb (HK.out.trans D.undrew) rfl bo.out H rfl U av (by simp);exact ⟨_,hh.1,hh.2.1,hh.2.2⟩
 obtain ⟨bt,hj,hp,hk⟩:=hcut;obtain ⟨y1,rfl⟩:∃ y:World,y=wc:=⟨_,rfl⟩
 clear J I HK HC fS lj V a2;have J:=Fk hp;have I:=Fk hj;have HK:=Fk hk;have be:Hid ((ins++[a1]).length≤1000000+1):=Fk (by have:=a5.out;simp only[Fo,Fv,List.length_nil];omega);clear hp hj hk a5;generalize ins++[a1]=il1 at I HR be;have a5:=be;clear be;rcases O:aR [46] r1 with x|r2
 ·have M:=HR.out
  rw[O,au] at M;have HX:=Fk M.symm;have HC:=Fk (cO O y1 J.out);clear M O;go_wp2_with fail
  refine HC.out.mono ?_;rintro ev w9 ⟨⟨gi,rfl,hb⟩,bv⟩;exact ⟨rfl,by rw[HX.out];exact ⟨gi,rfl,hb⟩,HK.out.trans bv⟩
 have M:=HR.out;rw[O,ar] at M;try dsimp only at M
 clear HR;have HR:=Fk M;clear M;have HC:=Fk (aT O y1 J.out);have aA:Hid (r2.length≤l.length):=Fk (by have:=Z.out;have:=aD O;omega);clear O Z;have Z:=aA;clear aA;go_wp2_with fail
 refine HC.out.mono ?_;rintro ev y2 ⟨rfl,hp,hk⟩;have HJ':=Fk (I.out.ps J.out hk);have HK':=Fk (HK.out.trans hk);clear J I HK HC;have J:=Fk hp;have I:=HJ';have HK:=HK';clear hp hk HJ' HK';go_upto_region 2 with (fail)
 obtain ⟨A3,c3,hv,-⟩:=aq I.out.o4;subst hv;have fS:y2.cell? ⟨jb,4,none⟩=some (FD A3 (cols).length c3)∧y2.frozen? ⟨jb,4,none⟩=false:=⟨I.out.blk.cell 4,I.out.blk.frozen 4⟩;have lj:=I.out.blk.lt;have V:=Fk (show (cols).length+1≤maxLen∧((cols).length+1)*16≤140737488355328 by have:=bz.out;simp only[maxLen];first|omega|(simp only[Fo,Fv,List.length_nil];omega));have a2:Hid (jb∉[b]):=Fk (by have:=I.out.blk.ty.ne J.out.ty (by decide);simpa using this);rcases O:aQ r2 with x|⟨a3,r3⟩
 ·have M:=HR.out
  rw[O,au] at M;have HX:=Fk M.symm;have HC:Hid (∀ W,aa [] y2 W→Calls Tryz.prog 80 #[FE (some ⟨b,0,none⟩)] W fun e w'=>bS x e w'∧aa [b] W w'):=Fk (fun W z=>bN O W (J.out.keep z));clear M O;go_wp2_with fail
  go_region_law (first|(refine step_append_lies _ (by rfl) _ _ _ (by rfl) w0.heap.size 9 i0 _ 1 16 Tryz.underlying44 hi a7 a9 a6 rfl (by decide) (FD A3 (cols).length c3) (cols).length (strs (cols)) (by rfl) ((I.out.ps J.out D.undrew).o4.alloc _) ⟨w6.heap.size,0,none⟩ 1 1 [FC (bs [])] (by rfl) rfl (Fx (heap_alloc_new _ _)) (by simp[Value.oneCell']) (by decide) V.out.1 V.out.2 (by have:=HK.out.size;have:=D.size;have h9:y2.drew.heap.size=y2.heap.size:=rfl;simp;omega) _ rfl ?_;intro gw cap w7 U H av a4;obtain ⟨ba,bc⟩:=aC H (aB ⟨N,a0⟩ _) (fun e=>(aL (I.out.ps J.out D.undrew).o4 jb e).ne (I.out.ps J.out D.undrew).blk.ty (by decide) rfl))|(go_simp;go_at_call 80;refine (HC.out _ (Fz [] y2).drew).mono ?_;rintro e w6 ⟨⟨gi,rfl,hb⟩,D⟩;obtain ⟨N,a0⟩:=aH D fS a2.out;have bj:jb<w6.heap.size:=Fq w6 ⟨jb,4,none⟩ N;dsimp only;(go_loud (refine cS ‹∀ (a:Act) (w:World),wpAny _ _ _ _ _ _ a w→_› (some 23) (FC (bs [])) ⟨rfl,by rw[HX.out];exact ⟨gi,rfl,hb⟩,HK.out.trans D.undrew⟩ (fun hF=>?_)))))
  all_goals exact hF.out.elim
 have M:=HR.out;rw[O,ar] at M;try dsimp only at M
 clear HR;have HR:=Fk M;clear M;have HC:Hid (∀ W,aa [] y2 W→Calls Tryz.prog 80 #[FE (some ⟨b,0,none⟩)] W fun e w'=>e=FF (FC (bs a3))∧Ps w' b r3∧aa [b] W w'):=Fk (fun W z=>bi O W (J.out.keep z));have aA:Hid (r3.length≤l.length):=Fk (by have:=Z.out;have:=az O;omega);clear Z;have Z:=aA;clear aA;clear O;have HX:=Fk HR.out.symm;clear HR;go_region_law (first|(refine step_append_lies _ (by rfl) _ _ _ (by rfl) w0.heap.size 9 i0 _ 1 16 Tryz.underlying44 hi a7 a9 a6 rfl (by decide) (FD A3 (cols).length c3) (cols).length (strs (cols)) (by rfl) ((I.out.ps J.out D.undrew).o4.alloc _) ⟨w6.heap.size,0,none⟩ 1 1 [FC (bs a3)] (by rfl) rfl (Fx (heap_alloc_new _ _)) (by simp[Value.oneCell']) (by decide) V.out.1 V.out.2 (by have:=HK.out.size;have:=D.size;have h9:y2.drew.heap.size=y2.heap.size:=rfl;simp;omega) _ rfl ?_;intro gw cap w7 U H av a4;obtain ⟨ba,bc⟩:=aC H (aB ⟨N,a0⟩ _) (fun e=>(aL (I.out.ps J.out D.undrew).o4 jb e).ne (I.out.ps J.out D.undrew).blk.ty (by decide) rfl))|(go_simp;go_at_call 80;refine (HC.out _ (Fz [] y2).drew).mono ?_;rintro e w6 ⟨rfl,bb,D⟩;obtain ⟨N,a0⟩:=aH D fS a2.out;have bj:jb<w6.heap.size:=Fq w6 ⟨jb,4,none⟩ N))
 all_goals
  go_wp2;first|go_end0|refine bodyPost_ret (results_none rfl _ _ _) rfl ?_
  try (have bX:=HCL.out;subst bX)
  have hh:=aV.app4 (I.out.ps J.out D.undrew) bb (HK.out.trans D.undrew) rfl bo.out H rfl U av (by simp);exact ⟨by rw[HX.out];exact ⟨rfl,⟨_,_,_,hh.1⟩,hh.2.1⟩,hh.2.2⟩
def dj (s:Bs):Int:=Lib.idxOfS (eF.map bs) (bs s)
theorem iw (s:Bs):∀ (ms:List Bs) (i:Nat),(Lib.idxFromS (ms.map bs) (bs s) i= -1∧dS s ms i=0)∨(Lib.idxFromS (ms.map bs) (bs s) i=(dS s ms i:Int)∧i≤dS s ms i∧dS s ms i<i+ms.length∧ms.getD (dS s ms i-i) []=s)
 | [],i=> .inl ⟨rfl,rfl⟩
 | m::ms,i=>by
  simp only[List.map_cons,Lib.idxFromS,dS];by_cases h:m=s
  ·right
   rw[if_pos (congrArg bs h),if_pos h];exact ⟨rfl,Fm _,by simp,by simpa using h⟩
  rw[if_neg (fun e=>h (zE e)),if_neg h];rcases iw s ms (i+1) with D|⟨D,J,I,H⟩
  ·exact .inl D
  right
  refine ⟨D,by omega,by simp;omega,?_⟩;rw[show dS s ms (i+1)-i=(dS s ms (i+1)-(i+1))+1 by omega];simpa using H
theorem da (s:Bs):max (dj s) 0=(bR s:Int):=by
 unfold dj bR Lib.idxOfS;rcases iw s eF 0 with ⟨h,D⟩|⟨h,_⟩
 ·rw[h,D];rfl
 rw[h];omega
theorem cT {s:Bs} {c:Nat} (h:bR s=c) (H:c≠0):s=eF.getD c []:=by
 unfold bR at h;rcases iw s eF 0 with ⟨_,I⟩|⟨_,_,_,D⟩
 ·omega
 rw[h] at D;simpa using D.symm
theorem qo (s:Bs):bR s<10:=by
 unfold bR;rcases iw s eF 0 with ⟨_,D⟩|⟨_,_,h,_⟩
 ·omega
 have:eF.length=10:=rfl;omega
theorem cB (s:Bs) (W:World) (H:jW W):Calls Tryz.prog 48 #[FD (some ⟨4,0,none⟩) 10 10,FC (bs s)] W fun e W'=>e=FF (FH FI (dj s))∧W=W':=by
 have h:=Tryz.slices_Index_string 4 0 10 10 (eF.map bs) (bs s) W (by decide) (by decide) (fun j I=>by
  have hj':j<eF.length:=by simpa using I
  rw[Nat.zero_add,H.words j hj',Fy,List.getElem?_map,Fp hj'];rfl)
 rw[List.take_of_length_le (by decide)] at h;exact h.mono fun e W' ⟨D,J⟩=>⟨D,J.symm⟩
theorem Do {j J:Jb} {l r:List Tk} (h:xG j l= .ok (J,r)):∃ a c,J=⟨j.at_,j.code,j.outs,j.ins++[a],j.cols++[c],j.op,j.left,j.right,j.retry⟩∧r.length≤l.length:=by
 unfold xG at h;rcases I:aQ l with x|⟨a,U⟩
 ·rw[I] at h;cases h
 rw[I,ar] at h;dsimp only at h
 rcases H:aR [46] U with x|N
 ·rw[H] at h;cases h
 rw[H,ar] at h;rcases D:aQ N with x|⟨c,V⟩
 ·rw[D] at h;cases h
 rw[D,ar] at h;injection h with h;injection h with M O;exact ⟨a,c,M.symm,by rw[←O,az D,aD H,az I];omega⟩
theorem qp {l:List Tk} {b jb lo:Nat} {v2 v3 v4:Value} (I code:Int) (outs ins cols:List Bs) (op:Bs) (left right:Ar) (D:Int) (w0 w:World) (hE:FB w0 lo) (av:lo≤b) (h:Ps w b l) (hk:aa [b] w0 w) (O:w0.heap.size≤jb) (hj:aV w w0.heap.size jb ⟨I,code,outs,ins,cols,op,left,right,D⟩ v2 v3 v4) (a1:ins.length≤1000) (aA:cols.length≤1000) (V:l.length≤1000000) (N:bR (aS l).text=0) :
  Calls Tryz.prog 122 #[FE (some ⟨b,0,none⟩),FE (some ⟨jb,0,none⟩)] w fun e w'=>gb (bF ⟨I,code,outs,ins,cols,op,left,right,D⟩ l) b w0.heap.size jb e w'∧aa [b] w0 w':=by
 obtain ⟨i0,hi,a7,a9,a6⟩:=info_parts kV;obtain ⟨R,hR⟩:∃ R,bF ⟨I,code,outs,ins,cols,op,left,right,D⟩ l=R:=⟨_,rfl⟩
 rw[hR];have HE:=Fk hE;have HP:=Fk h;have HK:=Fk hk;have Z:=Fk hj;have a0:=Fk O;have a4:Hid (ins.length≤999000):=Fk (by omega);have a5:Hid (cols.length≤999000):=Fk (by omega);have a3:=Fk V;have J:Hid (∀ W,aa [] w W→Calls Tryz.prog 48 #[FD (some ⟨4,0,none⟩) 10 10,FC (bs (aS l).text)] W fun e W'=>e=FF (FH FI (dj (aS l).text))∧W=W'):=Fk (fun W q=>cB (aS l).text W ((hE.one av hk).quiet q).env);obtain ⟨q,hq⟩:∃ q,dj (aS l).text=q:=⟨_,rfl⟩
 rw[hq] at J;have HQ:=Fk hq;obtain ⟨g,o,c,c0,z0,lb,lg,-,hn,hc,M,k0,k1,k2,-⟩:=h.open';have U:(0:Int)<(l.length:Int):=by omega
 have f1:w.cell? ⟨jb,1,none⟩=some (FH FI code):=hj.blk.cell 1;have f2:=hj.blk.frozen 1;have lj:=hj.blk.lt;have a2:=Fk N;have HX:Hid (R= .error (3,(aS l).at_)):=Fk (by rw[←hR];unfold bF;rw[if_pos (.inl N)];rfl);clear hR hE h hk hj a1 aA V O hq N;go_enter Tryz.func122,Tryz.ntmps122
 go_upto_region 0 with (fail)
 go_cut [] (fun wx=>wx=(w.setCell ⟨jb,1,none⟩ (FH FI (max q 0))).drew)
 case first =>
  go_region_law (first|(go_simp;go_at_call 48;refine (J.out _ (Fz [] w).drew).mono ?_;rintro e w6 ⟨rfl,rfl⟩))
  all_goals
   go_wp2;go_meet;exact rfl
 subst hcut;clear c0 z0 lb lg hn hc M k0 k1 k2 U lj f1 f2 J;have H:aa [jb] w ((w.setCell ⟨jb,1,none⟩ (FH FI (max q 0))).drew):=((Fz _ _).setCell (.inl (by simp)) _).drew;have hj':aV ((w.setCell ⟨jb,1,none⟩ (FH FI (max q 0))).drew) w0.heap.size jb ⟨I,max q 0,outs,ins,cols,op,left,right,D⟩ v2 v3 v4:=Z.out.box H ((Z.out.blk.set 1 (FH FI (max q 0))).congr (by rfl)) rfl rfl rfl;have hp':=HP.out.box Z.out H;have hk':=HK.out.box a0.out H;have hm:max q 0=0:=by rw[←HQ.out,da,a2.out];rfl
 rw[hm] at hj' hp' hk' ⊢;clear hm H Z HP HK;obtain ⟨y0,hy⟩:∃ x,(w.setCell ⟨jb,1,none⟩ (FH FI 0)).drew=x:=⟨_,rfl⟩
 rw[hy] at hj' hp' hk' ⊢;have Z:=Fk hj';have HP:=Fk hp';have HK:=Fk hk';have a8:y0.cell? ⟨jb,1,none⟩=some (FH FI 0):=hj'.blk.cell 1;have lj:=hj'.blk.lt;obtain ⟨g,o,c,c0,z0,lb,lg,-,hn,hc,M,k0,k1,k2,-⟩:=hp'.open';have U:(0:Int)<(l.length:Int):=by omega
 clear hy hj' hp' hk' hn hc M HQ;go_wp2_with fail
 refine (bu 3 y0 HP.out).mono ?_;rintro ev w9 ⟨⟨gi,rfl,hb⟩,ad⟩;exact ⟨rfl,by rw[HX.out];exact ⟨gi,rfl,hb⟩,HK.out.trans ad.of_nil⟩
theorem xL {l:List Tk} {b jb lo:Nat} {v2 v3 v4:Value} (I code:Int) (outs ins cols:List Bs) (op:Bs) (left right:Ar) (D:Int) (w0 w:World) (hE:FB w0 lo) (av:lo≤b) (h:Ps w b l) (hk:aa [b] w0 w) (O:w0.heap.size≤jb) (hj:aV w w0.heap.size jb ⟨I,code,outs,ins,cols,op,left,right,D⟩ v2 v3 v4) (a1:ins.length≤1000) (aA:cols.length≤1000) (V:l.length≤1000000) {cc:Nat} (Z:bR (aS l).text=cc) (a3:cc≠0) (N:(aS l).kind≠1) :
  Calls Tryz.prog 122 #[FE (some ⟨b,0,none⟩),FE (some ⟨jb,0,none⟩)] w fun e w'=>gb (bF ⟨I,code,outs,ins,cols,op,left,right,D⟩ l) b w0.heap.size jb e w'∧aa [b] w0 w':=by
 obtain ⟨i0,hi,ba,bc,a7⟩:=info_parts kV;obtain ⟨R,hR⟩:∃ R,bF ⟨I,code,outs,ins,cols,op,left,right,D⟩ l=R:=⟨_,rfl⟩
 rw[hR];have HE:=Fk hE;have HP:=Fk h;have HK:=Fk hk;have HJ:=Fk hj;have a0:=Fk O;have a5:Hid (ins.length≤999000):=Fk (by omega);have a6:Hid (cols.length≤999000):=Fk (by omega);have a4:=Fk V;have J:Hid (∀ W,aa [] w W→Calls Tryz.prog 48 #[FD (some ⟨4,0,none⟩) 10 10,FC (bs (aS l).text)] W fun e W'=>e=FF (FH FI (dj (aS l).text))∧W=W'):=Fk (fun W q=>cB (aS l).text W ((hE.one av hk).quiet q).env);obtain ⟨q,hq⟩:∃ q,dj (aS l).text=q:=⟨_,rfl⟩
 rw[hq] at J;have HQ:=Fk hq;obtain ⟨g,o,c,c0,z0,lb,lg,-,hn,hc,M,k0,k1,k2,-⟩:=h.open';have U:(0:Int)<(l.length:Int):=by omega
 have f1:w.cell? ⟨jb,1,none⟩=some (FH FI code):=hj.blk.cell 1;have f2:=hj.blk.frozen 1;have lj:=hj.blk.lt;have a2:=Fk Z;have HX:Hid (R= .error (3,(aS l).at_)):=Fk (by rw[←hR];unfold bF;rw[if_pos (.inr N)];rfl);have a9:((aS l).kind != 1)=true:=by rw[bne_iff_ne];exact N
 have a8:((cc:Int)==0)=false:=by rw[beq_eq_false_iff_ne];omega
 clear hR hE h hk hj a1 aA V O hq Z a3 N;go_enter Tryz.func122,Tryz.ntmps122
 go_upto_region 0 with (fail)
 go_cut [] (fun wx=>wx=(w.setCell ⟨jb,1,none⟩ (FH FI (max q 0))).drew)
 case first =>
  go_region_law (first|(go_simp;go_at_call 48;refine (J.out _ (Fz [] w).drew).mono ?_;rintro e w6 ⟨rfl,rfl⟩))
  all_goals
   go_wp2;go_meet;exact rfl
 subst hcut;clear c0 z0 lb lg hn hc M k0 k1 k2 U lj f1 f2 J;have H:aa [jb] w ((w.setCell ⟨jb,1,none⟩ (FH FI (max q 0))).drew):=((Fz _ _).setCell (.inl (by simp)) _).drew;have hj':aV ((w.setCell ⟨jb,1,none⟩ (FH FI (max q 0))).drew) w0.heap.size jb ⟨I,max q 0,outs,ins,cols,op,left,right,D⟩ v2 v3 v4:=HJ.out.box H ((HJ.out.blk.set 1 (FH FI (max q 0))).congr (by rfl)) rfl rfl rfl;have hp':=HP.out.box HJ.out H;have hk':=HK.out.box a0.out H;have hm:max q 0=(cc:Int):=by rw[←HQ.out,da,a2.out]
 rw[hm] at hj' hp' hk' ⊢;clear hm H HJ HP HK;obtain ⟨y0,hy⟩:∃ x,(w.setCell ⟨jb,1,none⟩ (FH FI (cc:Int))).drew=x:=⟨_,rfl⟩
 rw[hy] at hj' hp' hk' ⊢;have HJ:=Fk hj';have HP:=Fk hp';have HK:=Fk hk';have bb:y0.cell? ⟨jb,1,none⟩=some (FH FI (cc:Int)):=hj'.blk.cell 1;have lj:=hj'.blk.lt;obtain ⟨g,o,c,c0,z0,lb,lg,-,hn,hc,M,k0,k1,k2,-⟩:=hp'.open';have U:(0:Int)<(l.length:Int):=by omega
 clear hy hj' hp' hk' hn hc M HQ;go_wp2_with fail
 refine (bu 3 y0 HP.out).mono ?_;rintro ev w9 ⟨⟨gi,rfl,hb⟩,ad⟩;exact ⟨rfl,by rw[HX.out];exact ⟨gi,rfl,hb⟩,HK.out.trans ad.of_nil⟩
theorem Dp {l:List Tk} {b jb lo:Nat} {v2 v3 v4:Value} (M code:Int) (outs ins cols:List Bs) (op:Bs) (left right:Ar) (D:Int) (w0 w:World) (hE:FB w0 lo) (a0:lo≤b) (h:Ps w b l) (V:aa [b] w0 w) (bm:w0.heap.size≤jb) (hj:aV w w0.heap.size jb ⟨M,code,outs,ins,cols,op,left,right,D⟩ v2 v3 v4) (b0:ins.length≤1000) (bX:cols.length≤1000) (bv:l.length≤1000000) (a3:bR (aS l).text=7) (aA:(aS l).kind=1) :
  Calls Tryz.prog 122 #[FE (some ⟨b,0,none⟩),FE (some ⟨jb,0,none⟩)] w fun e w'=>gb (bF ⟨M,code,outs,ins,cols,op,left,right,D⟩ l) b w0.heap.size jb e w'∧aa [b] w0 w':=by
 obtain ⟨i0,hi,b7,cd,b4⟩:=info_parts kV;obtain ⟨R,hR⟩:∃ R,bF ⟨M,code,outs,ins,cols,op,left,right,D⟩ l=R:=⟨_,rfl⟩
 rw[hR];have HE:=Fk hE;have O:=Fk h;have Z:=Fk V;have U:=Fk hj;have a6:=Fk bm;have bj:Hid (ins.length≤999000):=Fk (by omega);have bk:Hid (cols.length≤999000):=Fk (by omega);have bc:=Fk bv;have a4:Hid (∀ W,aa [] w W→Calls Tryz.prog 48 #[FD (some ⟨4,0,none⟩) 10 10,FC (bs (aS l).text)] W fun e W'=>e=FF (FH FI (dj (aS l).text))∧W=W'):=Fk (fun W q=>cB (aS l).text W ((hE.one a0 V).quiet q).env);obtain ⟨q,hq⟩:∃ q,dj (aS l).text=q:=⟨_,rfl⟩
 rw[hq] at a4;have HQ:=Fk hq;obtain ⟨g,o,c,c0,z0,lb,lg,-,hn,N,a5,k0,k1,k2,-⟩:=h.open';have a7:(0:Int)<(l.length:Int):=by omega
 have f1:w.cell? ⟨jb,1,none⟩=some (FH FI code):=hj.blk.cell 1;have f2:=hj.blk.frozen 1;have lj:=hj.blk.lt;have bz:=Fk a3;have ba:Hid (nL (⟨M,7,outs,ins,cols,op,left,right,D⟩:Jb) l.tail=R):=Fk (by
  rw[←hR];unfold bF;rw[a3,if_neg (by rw[aA];decide)];rfl)
 have br:bC [106,111,105,110] l=true:=by
  unfold bC;rw[aA,cT a3 (by decide)];rfl
 have bb:=Fk br;have bq:=Fk aA;clear hR hE h V hj b0 bX bv bm hq a3 br aA;go_enter Tryz.func122,Tryz.ntmps122
 go_upto_region 0 with (fail)
 go_cut [] (fun wx=>wx=(w.setCell ⟨jb,1,none⟩ (FH FI (max q 0))).drew)
 case first =>
  go_region_law (first|(go_simp;go_at_call 48;refine (a4.out _ (Fz [] w).drew).mono ?_;rintro e w6 ⟨rfl,rfl⟩))
  all_goals
   go_wp2;go_meet;exact rfl
 subst hcut;clear c0 z0 lb lg hn N a5 k0 k1 k2 a7 lj f1 f2 a4;have a1:aa [jb] w ((w.setCell ⟨jb,1,none⟩ (FH FI (max q 0))).drew):=((Fz _ _).setCell (.inl (by simp)) _).drew;have hj':aV ((w.setCell ⟨jb,1,none⟩ (FH FI (max q 0))).drew) w0.heap.size jb ⟨M,max q 0,outs,ins,cols,op,left,right,D⟩ v2 v3 v4:=U.out.box a1 ((U.out.blk.set 1 (FH FI (max q 0))).congr (by rfl)) rfl rfl rfl;have hp':=O.out.box U.out a1;have hk':=Z.out.box a6.out a1;have hm:max q 0=7:=by rw[←HQ.out,da,bz.out];rfl
 rw[hm] at hj' hp' hk' ⊢;clear hm a1 U O Z;obtain ⟨y0,hy⟩:∃ x,(w.setCell ⟨jb,1,none⟩ (FH FI 7)).drew=x:=⟨_,rfl⟩
 rw[hy] at hj' hp' hk' ⊢;have U:=Fk hj';have O:=Fk hp';have Z:=Fk hk';have a9:y0.cell? ⟨jb,1,none⟩=some (FH FI 7):=hj'.blk.cell 1;have lj:=hj'.blk.lt;obtain ⟨g,o,c,c0,z0,lb,lg,-,hn,N,a5,k0,k1,k2,-⟩:=hp'.open';have a7:(0:Int)<(l.length:Int):=by omega
 clear hy hj' hp' hk' hn N a5 HQ;rw[bq.out] at k0;have wd:=(HE.out.one a0 Z.out).env.words 7 (by decide);have bo:y0.cell? ⟨4,7,none⟩=some (FC (bs [106,111,105,110])):=wd;have b1:=Fq _ _ bo;clear wd;go_wp2_with fail
 refine (aT (s:=[106,111,105,110]) (r:=l.tail) (by unfold aR;rw[if_pos bb.out]) y0 O.out).mono ?_;rintro ev y1 ⟨rfl,hp,V⟩;have HJ':=Fk (U.out.ps O.out V);have HK':=Fk (Z.out.trans V);clear O U Z c0 z0 lb lg k0 k1 k2 a7 a9 lj bo b1;have O:=Fk hp;have U:=HJ';have Z:=HK';clear hp V HJ' HK';have HR:=ba;clear ba;have J:Hid (l.tail.length≤l.length):=Fk (by rw[List.length_tail];omega);obtain ⟨r0,be⟩:∃ r0,l.tail=r0:=⟨_,rfl⟩
 rw[be] at O HR J;clear be bb bq bz;have a9:y1.cell? ⟨jb,1,none⟩=some (FH FI 7):=U.out.blk.cell 1;have bZ:=U.out.blk.lt;have H:=HR.out;unfold nL at H;clear HR;have HR:=Fk H;clear H;have N:=zS M 7 outs (ins) (cols) op left right D w0 y1 HE.out a0 O.out Z.out a6.out U.out (by have:=bj.out;first|omega|(simp only[Fo,Fv,List.length_nil];omega)) (by have:=bk.out;first|omega|(simp only[Fo,Fv,List.length_nil];omega)) (Ft J.out bc.out);rcases I:xG (⟨M,7,outs,ins,cols,op,left,right,D⟩:Jb) r0 with x|⟨j2,r2⟩
 ·have H:=HR.out
  rw[I,au] at H;have HX:=Fk H.symm;rw[I] at N;have a8:=Fk N;clear H I N;go_wp2_with fail
  refine a8.out.mono ?_;rintro ev w9 ⟨⟨gi,rfl,hb⟩,ad⟩;exact ⟨rfl,by rw[HX.out];exact ⟨gi,rfl,hb⟩,ad⟩
 have H:=HR.out;rw[I,ar] at H;try dsimp only at H
 clear HR;have HR:=Fk H;clear H;rw[I] at N;obtain ⟨a2,d2,e,bt⟩:=Do I;subst e;have av:Hid (r2.length≤l.length):=Fk (Ft bt J.out);have HC:=Fk N;clear I N bt J;have J:=av;clear av;go_wp2_with fail
 refine HC.out.mono ?_;rintro ev y2 ⟨⟨rfl,⟨b6,b3,b9,hj⟩,hp⟩,V⟩;clear O U Z HC;have O:=Fk hp;have U:=Fk hj;have Z:=Fk V;clear hp hj V;clear a9 bZ;rcases I:aR [44] r2 with x|r3
 ·have H:=HR.out
  rw[I,au] at H;have HX:=Fk H.symm;have HC:=Fk (cO I y2 O.out);clear H I;go_wp2_with fail
  refine HC.out.mono ?_;rintro ev w9 ⟨⟨gi,rfl,hb⟩,ad⟩;exact ⟨rfl,by rw[HX.out];exact ⟨gi,rfl,hb⟩,Z.out.trans ad⟩
 have H:=HR.out;rw[I,ar] at H;try dsimp only at H
 clear HR;have HR:=Fk H;clear H;have HC:=Fk (aT I y2 O.out);have av:Hid (r3.length≤l.length):=Fk (by have:=J.out;have:=aD I;omega);clear I J;have J:=av;clear av;go_wp2_with fail
 refine HC.out.mono ?_;rintro ev y3 ⟨rfl,hp,V⟩;have HJ':=Fk (U.out.ps O.out V);have HK':=Fk (Z.out.trans V);clear O U Z HC;have O:=Fk hp;have U:=HJ';have Z:=HK';clear hp V HJ' HK';have N:=zS M 7 outs (ins++[a2]) (cols++[d2]) op left right D w0 y3 HE.out a0 O.out Z.out a6.out U.out (by have:=bj.out;first|omega|(simp only[Fo,Fv,List.length_nil];omega)) (by have:=bk.out;first|omega|(simp only[Fo,Fv,List.length_nil];omega)) (Ft J.out bc.out);rcases I:xG (⟨M,7,outs,ins++[a2],cols++[d2],op,left,right,D⟩:Jb) r3 with x|⟨j4,r4⟩
 ·have H:=HR.out
  rw[I] at H;have HX:=Fk H.symm;rw[I] at N;have a8:=Fk N;clear H I N;go_wp2_with fail
  refine a8.out.mono ?_;rintro ev w9 ⟨⟨gi,rfl,hb⟩,ad⟩;exact ⟨rfl,by rw[HX.out];exact ⟨gi,rfl,hb⟩,ad⟩
 have H:=HR.out;rw[I] at H;have HX:=Fk H.symm;rw[I] at N;have HC:=Fk N;clear H I N;go_wp2_with fail
 refine HC.out.mono ?_;rintro ev y4 ⟨⟨rfl,⟨b8,ca,b5,hj⟩,hp⟩,V⟩;go_wp2;first|go_end0|refine bodyPost_ret (results_none rfl _ _ _) rfl ?_
 exact ⟨by rw[HX.out];exact ⟨rfl,⟨_,_,_,hj⟩,hp⟩,V⟩
theorem Dq {l:List Tk} {b jb lo:Nat} {v2 v3 v4:Value} (a5 code:Int) (outs ins cols:List Bs) (op:Bs) (left right:Ar) (N:Int) (w0 w:World) (hE:FB w0 lo) (b4:lo≤b) (h:Ps w b l) (hk:aa [b] w0 w) (b5:w0.heap.size≤jb) (hj:aV w w0.heap.size jb ⟨a5,code,outs,ins,cols,op,left,right,N⟩ v2 v3 v4) (ch:ins.length≤1000) (ce:cols.length≤1000) (b9:l.length≤1000000) (bb:bR (aS l).text=5) (a8:(aS l).kind=1) :
  Calls Tryz.prog 122 #[FE (some ⟨b,0,none⟩),FE (some ⟨jb,0,none⟩)] w fun e w'=>gb (bF ⟨a5,code,outs,ins,cols,op,left,right,N⟩ l) b w0.heap.size jb e w'∧aa [b] w0 w':=by
 obtain ⟨i0,hi,bc,be,a9⟩:=info_parts kV;obtain ⟨R,hR⟩:∃ R,bF ⟨a5,code,outs,ins,cols,op,left,right,N⟩ l=R:=⟨_,rfl⟩
 rw[hR];have HE:=Fk hE;have J:=Fk h;have Z:=Fk hk;have I:=Fk hj;have bq:=Fk b5;have a6:Hid (ins.length≤999000):=Fk (by omega);have cn:Hid (cols.length≤999000):=Fk (by omega);have cm:=Fk b9;have bj:Hid (∀ W,aa [] w W→Calls Tryz.prog 48 #[FD (some ⟨4,0,none⟩) 10 10,FC (bs (aS l).text)] W fun e W'=>e=FF (FH FI (dj (aS l).text))∧W=W'):=Fk (fun W q=>cB (aS l).text W ((hE.one b4 hk).quiet q).env);obtain ⟨q,hq⟩:∃ q,dj (aS l).text=q:=⟨_,rfl⟩
 rw[hq] at bj;have HQ:=Fk hq;obtain ⟨g,o,c,c0,z0,lb,lg,-,hn,hc,bm,k0,k1,k2,-⟩:=h.open';have bt:(0:Int)<(l.length:Int):=by omega
 have f1:w.cell? ⟨jb,1,none⟩=some (FH FI code):=hj.blk.cell 1;have f2:=hj.blk.frozen 1;have lj:=hj.blk.lt;have ca:=Fk bb;have bZ:Hid (ku (⟨a5,5,outs,ins,cols,op,left,right,N⟩:Jb) l.tail=R):=Fk (by
  rw[←hR];unfold bF;rw[bb,if_neg (by rw[a8];decide)];rfl)
 have b8:bC [117,110,105,111,110] l=true:=by
  unfold bC;rw[a8,cT bb (by decide)];rfl
 have b0:=Fk b8;have b7:=Fk a8;clear hR hE h hk hj ch ce b9 b5 hq bb b8 a8;go_enter Tryz.func122,Tryz.ntmps122
 go_upto_region 0 with (fail)
 go_cut [] (fun wx=>wx=(w.setCell ⟨jb,1,none⟩ (FH FI (max q 0))).drew)
 case first =>
  go_region_law (first|(go_simp;go_at_call 48;refine (bj.out _ (Fz [] w).drew).mono ?_;rintro e w6 ⟨rfl,rfl⟩))
  all_goals
   go_wp2;go_meet;exact rfl
 subst hcut;clear c0 z0 lb lg hn hc bm k0 k1 k2 bt lj f1 f2 bj;have ba:aa [jb] w ((w.setCell ⟨jb,1,none⟩ (FH FI (max q 0))).drew):=((Fz _ _).setCell (.inl (by simp)) _).drew;have hj':aV ((w.setCell ⟨jb,1,none⟩ (FH FI (max q 0))).drew) w0.heap.size jb ⟨a5,max q 0,outs,ins,cols,op,left,right,N⟩ v2 v3 v4:=I.out.box ba ((I.out.blk.set 1 (FH FI (max q 0))).congr (by rfl)) rfl rfl rfl;have hp':=J.out.box I.out ba;have hk':=Z.out.box bq.out ba;have hm:max q 0=5:=by rw[←HQ.out,da,ca.out];rfl
 rw[hm] at hj' hp' hk' ⊢;clear hm ba I J Z;obtain ⟨y0,hy⟩:∃ x,(w.setCell ⟨jb,1,none⟩ (FH FI 5)).drew=x:=⟨_,rfl⟩
 rw[hy] at hj' hp' hk' ⊢;have I:=Fk hj';have J:=Fk hp';have Z:=Fk hk';have bz:y0.cell? ⟨jb,1,none⟩=some (FH FI 5):=hj'.blk.cell 1;have lj:=hj'.blk.lt;obtain ⟨g,o,c,c0,z0,lb,lg,-,hn,hc,bm,k0,k1,k2,-⟩:=hp'.open';have bt:(0:Int)<(l.length:Int):=by omega
 clear hy hj' hp' hk' hn hc bm HQ;rw[b7.out] at k0;have wd:=(HE.out.one b4 Z.out).env.words 5 (by decide);have b6:y0.cell? ⟨4,5,none⟩=some (FC (bs [117,110,105,111,110])):=wd;have cj:=Fq _ _ b6;clear wd;go_wp2_with fail
 refine (aT (s:=[117,110,105,111,110]) (r:=l.tail) (by unfold aR;rw[if_pos b0.out]) y0 J.out).mono ?_;rintro ev y1 ⟨rfl,hp,hk⟩;have HJ':=Fk (I.out.ps J.out hk);have HK':=Fk (Z.out.trans hk);clear J I Z c0 z0 lb lg k0 k1 k2 bt bz lj b6 cj;have J:=Fk hp;have I:=HJ';have Z:=HK';clear hp hk HJ' HK';have HR:=bZ;clear bZ;have ad:Hid (l.tail.length≤l.length):=Fk (by rw[List.length_tail];omega);obtain ⟨r0,b1⟩:∃ r0,l.tail=r0:=⟨_,rfl⟩
 rw[b1] at J HR ad;clear b1 b0 b7 ca;have bz:y1.cell? ⟨jb,1,none⟩=some (FH FI 5):=I.out.blk.cell 1;have cg:=I.out.blk.lt;have M:=HR.out;unfold ku at M;clear HR;have HR:=Fk M;clear M;go_upto_region 10 with (fail)
 obtain ⟨A2,c2,hv,-⟩:=aq I.out.o3;subst hv;have fS:y1.cell? ⟨jb,3,none⟩=some (FD A2 (ins).length c2)∧y1.frozen? ⟨jb,3,none⟩=false:=⟨I.out.blk.cell 3,I.out.blk.frozen 3⟩;have lj:=I.out.blk.lt;have av:=Fk (show (ins).length+1≤maxLen∧((ins).length+1)*16≤140737488355328 by have:=a6.out;simp only[maxLen];first|omega|(simp only[Fo,Fv,List.length_nil];omega));have a3:Hid (jb∉[b]):=Fk (by have:=I.out.blk.ty.ne J.out.ty (by decide);simpa using this);rcases U:aQ r0 with x|⟨a2,r2⟩
 ·have M:=HR.out
  rw[U,au] at M;have HX:=Fk M.symm;have HC:Hid (∀ W,aa [] y1 W→Calls Tryz.prog 80 #[FE (some ⟨b,0,none⟩)] W fun e w'=>bS x e w'∧aa [b] W w'):=Fk (fun W z=>bN U W (J.out.keep z));clear M U;go_wp2_with fail
  go_region_law (first|(refine step_append_lies _ (by rfl) _ _ _ (by rfl) w0.heap.size 9 i0 _ 1 16 Tryz.underlying44 hi bc be a9 rfl (by decide) (FD A2 (ins).length c2) (ins).length (strs (ins)) (by rfl) ((I.out.ps J.out D.undrew).o3.alloc _) ⟨w6.heap.size,0,none⟩ 1 1 [FC (bs [])] (by rfl) rfl (Fx (heap_alloc_new _ _)) (by simp[Value.oneCell']) (by decide) av.out.1 av.out.2 (by have:=Z.out.size;have:=D.size;have h9:y1.drew.heap.size=y1.heap.size:=rfl;simp;omega) _ rfl ?_;intro gw cap w7 V H aA a7;obtain ⟨bk,br⟩:=aC H (aB ⟨O,a1⟩ _) (fun e=>(aL (I.out.ps J.out D.undrew).o3 jb e).ne (I.out.ps J.out D.undrew).blk.ty (by decide) rfl))|(go_simp;go_at_call 80;refine (HC.out _ (Fz [] y1).drew).mono ?_;rintro e w6 ⟨⟨gi,rfl,hb⟩,D⟩;obtain ⟨O,a1⟩:=aH D fS a3.out;have bX:jb<w6.heap.size:=Fq w6 ⟨jb,3,none⟩ O;dsimp only;(go_loud (refine cS ‹∀ (a:Act) (w:World),wpAny _ _ _ _ _ _ a w→_› (some 64) (FC (bs [])) ⟨rfl,by rw[HX.out];exact ⟨gi,rfl,hb⟩,Z.out.trans D.undrew⟩ (fun hF=>?_)))))
  all_goals exact hF.out.elim
 have M:=HR.out;rw[U,ar] at M;try dsimp only at M
 clear HR;have HR:=Fk M;clear M;have HC:Hid (∀ W,aa [] y1 W→Calls Tryz.prog 80 #[FE (some ⟨b,0,none⟩)] W fun e w'=>e=FF (FC (bs a2))∧Ps w' b r2∧aa [b] W w'):=Fk (fun W z=>bi U W (J.out.keep z));have a0:Hid (r2.length≤l.length):=Fk (by have:=ad.out;have:=az U;omega);clear ad;have ad:=a0;clear a0;clear U;go_cut [] (fun wx=>∃ b3,aV wx w0.heap.size jb (⟨a5,5,outs,ins++[a2],cols,op,left,right,N⟩:Jb) v2 b3 v4∧Ps wx b r2∧aa [b] w0 wx)
 case first =>
  go_region_law (first|(refine step_append_lies _ (by rfl) _ _ _ (by rfl) w0.heap.size 9 i0 _ 1 16 Tryz.underlying44 hi bc be a9 rfl (by decide) (FD A2 (ins).length c2) (ins).length (strs (ins)) (by rfl) ((I.out.ps J.out D.undrew).o3.alloc _) ⟨w6.heap.size,0,none⟩ 1 1 [FC (bs a2)] (by rfl) rfl (Fx (heap_alloc_new _ _)) (by simp[Value.oneCell']) (by decide) av.out.1 av.out.2 (by have:=Z.out.size;have:=D.size;have h9:y1.drew.heap.size=y1.heap.size:=rfl;simp;omega) _ rfl ?_;intro gw cap w7 V H aA a7;obtain ⟨bk,br⟩:=aC H (aB ⟨O,a1⟩ _) (fun e=>(aL (I.out.ps J.out D.undrew).o3 jb e).ne (I.out.ps J.out D.undrew).blk.ty (by decide) rfl))|(go_simp;go_at_call 80;refine (HC.out _ (Fz [] y1).drew).mono ?_;rintro e w6 ⟨rfl,bo,D⟩;obtain ⟨O,a1⟩:=aH D fS a3.out;have bX:jb<w6.heap.size:=Fq w6 ⟨jb,3,none⟩ O))
  all_goals
   go_wp2;go_meet;have hh:=aV.app3 (I.out.ps J.out D.undrew) bo (Z.out.trans D.undrew) rfl bq.out H rfl V aA (by simp);exact ⟨_,hh.1,hh.2.1,hh.2.2⟩
 obtain ⟨b3,hj,hp,hk⟩:=hcut;obtain ⟨y2,rfl⟩:∃ y:World,y=wc:=⟨_,rfl⟩
 clear J I Z HC fS lj av a3;have J:=Fk hp;have I:=Fk hj;have Z:=Fk hk;have bv:Hid ((ins++[a2]).length≤999000+2):=Fk (by have:=a6.out;simp only[Fo,Fv,List.length_nil];omega);clear hp hj hk a6;generalize ins++[a2]=il2 at I HR bv;have a6:=bv;clear bv;clear bz cg;rcases U:aR [44] r2 with x|r3
 ·have M:=HR.out
  rw[U,au] at M;have HX:=Fk M.symm;have HC:=Fk (cO U y2 J.out);clear M U;go_wp2_with fail
  refine HC.out.mono ?_;rintro ev w9 ⟨⟨gi,rfl,hb⟩,cd⟩;exact ⟨rfl,by rw[HX.out];exact ⟨gi,rfl,hb⟩,Z.out.trans cd⟩
 have M:=HR.out;rw[U,ar] at M;try dsimp only at M
 clear HR;have HR:=Fk M;clear M;have HC:=Fk (aT U y2 J.out);have a0:Hid (r3.length≤l.length):=Fk (by have:=ad.out;have:=aD U;omega);clear U ad;have ad:=a0;clear a0;go_wp2_with fail
 refine HC.out.mono ?_;rintro ev y3 ⟨rfl,hp,hk⟩;have HJ':=Fk (I.out.ps J.out hk);have HK':=Fk (Z.out.trans hk);clear J I Z HC;have J:=Fk hp;have I:=HJ';have Z:=HK';clear hp hk HJ' HK';go_upto_region 12 with (fail)
 obtain ⟨A4,c4,hv,-⟩:=aq I.out.o3;subst hv;have fS:y3.cell? ⟨jb,3,none⟩=some (FD A4 (il2).length c4)∧y3.frozen? ⟨jb,3,none⟩=false:=⟨I.out.blk.cell 3,I.out.blk.frozen 3⟩;have lj:=I.out.blk.lt;have av:=Fk (show (il2).length+1≤maxLen∧((il2).length+1)*16≤140737488355328 by have:=a6.out;simp only[maxLen];first|omega|(simp only[Fo,Fv,List.length_nil];omega));have a3:Hid (jb∉[b]):=Fk (by have:=I.out.blk.ty.ne J.out.ty (by decide);simpa using this);rcases U:aQ r3 with x|⟨a4,r4⟩
 ·have M:=HR.out
  rw[U,au] at M;have HX:=Fk M.symm;have HC:Hid (∀ W,aa [] y3 W→Calls Tryz.prog 80 #[FE (some ⟨b,0,none⟩)] W fun e w'=>bS x e w'∧aa [b] W w'):=Fk (fun W z=>bN U W (J.out.keep z));clear M U;go_wp2_with fail
  go_region_law (first|(refine step_append_lies _ (by rfl) _ _ _ (by rfl) w0.heap.size 9 i0 _ 1 16 Tryz.underlying44 hi bc be a9 rfl (by decide) (FD A4 (il2).length c4) (il2).length (strs (il2)) (by rfl) ((I.out.ps J.out D.undrew).o3.alloc _) ⟨w6.heap.size,0,none⟩ 1 1 [FC (bs [])] (by rfl) rfl (Fx (heap_alloc_new _ _)) (by simp[Value.oneCell']) (by decide) av.out.1 av.out.2 (by have:=Z.out.size;have:=D.size;have h9:y3.drew.heap.size=y3.heap.size:=rfl;simp;omega) _ rfl ?_;intro gw cap w7 V H aA a7;obtain ⟨bk,br⟩:=aC H (aB ⟨O,a1⟩ _) (fun e=>(aL (I.out.ps J.out D.undrew).o3 jb e).ne (I.out.ps J.out D.undrew).blk.ty (by decide) rfl))|(go_simp;go_at_call 80;refine (HC.out _ (Fz [] y3).drew).mono ?_;rintro e w6 ⟨⟨gi,rfl,hb⟩,D⟩;obtain ⟨O,a1⟩:=aH D fS a3.out;have bX:jb<w6.heap.size:=Fq w6 ⟨jb,3,none⟩ O;dsimp only;(go_loud (refine cS ‹∀ (a:Act) (w:World),wpAny _ _ _ _ _ _ a w→_› (some 77) (FC (bs [])) ⟨rfl,by rw[HX.out];exact ⟨gi,rfl,hb⟩,Z.out.trans D.undrew⟩ (fun hF=>?_)))))
  all_goals exact hF.out.elim
 have M:=HR.out;rw[U,ar] at M;try dsimp only at M
 clear HR;have HR:=Fk M;clear M;have HC:Hid (∀ W,aa [] y3 W→Calls Tryz.prog 80 #[FE (some ⟨b,0,none⟩)] W fun e w'=>e=FF (FC (bs a4))∧Ps w' b r4∧aa [b] W w'):=Fk (fun W z=>bi U W (J.out.keep z));have a0:Hid (r4.length≤l.length):=Fk (by have:=ad.out;have:=az U;omega);clear ad;have ad:=a0;clear a0;clear U;have HX:=Fk HR.out.symm;clear HR;go_region_law (first|(refine step_append_lies _ (by rfl) _ _ _ (by rfl) w0.heap.size 9 i0 _ 1 16 Tryz.underlying44 hi bc be a9 rfl (by decide) (FD A4 (il2).length c4) (il2).length (strs (il2)) (by rfl) ((I.out.ps J.out D.undrew).o3.alloc _) ⟨w6.heap.size,0,none⟩ 1 1 [FC (bs a4)] (by rfl) rfl (Fx (heap_alloc_new _ _)) (by simp[Value.oneCell']) (by decide) av.out.1 av.out.2 (by have:=Z.out.size;have:=D.size;have h9:y3.drew.heap.size=y3.heap.size:=rfl;simp;omega) _ rfl ?_;intro gw cap w7 V H aA a7;obtain ⟨bk,br⟩:=aC H (aB ⟨O,a1⟩ _) (fun e=>(aL (I.out.ps J.out D.undrew).o3 jb e).ne (I.out.ps J.out D.undrew).blk.ty (by decide) rfl))|(go_simp;go_at_call 80;refine (HC.out _ (Fz [] y3).drew).mono ?_;rintro e w6 ⟨rfl,bo,D⟩;obtain ⟨O,a1⟩:=aH D fS a3.out;have bX:jb<w6.heap.size:=Fq w6 ⟨jb,3,none⟩ O))
 all_goals
  go_wp2;first|go_end0|refine bodyPost_ret (results_none rfl _ _ _) rfl ?_
  try (have ci:=HCL.out;subst ci)
  have hh:=aV.app3 (I.out.ps J.out D.undrew) bo (Z.out.trans D.undrew) rfl bq.out H rfl V aA (by simp);exact ⟨by rw[HX.out];exact ⟨rfl,⟨_,_,_,hh.1⟩,hh.2.1⟩,hh.2.2⟩
theorem Dv {l:List Tk} {b jb lo:Nat} {v2 v3 v4:Value} (aA code:Int) (outs ins cols:List Bs) (op:Bs) (left right:Ar) (I:Int) (w0 w:World) (hE:FB w0 lo) (b0:lo≤b) (h:Ps w b l) (Z:aa [b] w0 w) (b1:w0.heap.size≤jb) (hj:aV w w0.heap.size jb ⟨aA,code,outs,ins,cols,op,left,right,I⟩ v2 v3 v4) (cm:ins.length≤1000) (ci:cols.length≤1000) (b8:l.length≤1000000) (ba:bR (aS l).text=3) (a8:(aS l).kind=1) :
  Calls Tryz.prog 122 #[FE (some ⟨b,0,none⟩),FE (some ⟨jb,0,none⟩)] w fun e w'=>gb (bF ⟨aA,code,outs,ins,cols,op,left,right,I⟩ l) b w0.heap.size jb e w'∧aa [b] w0 w':=by
 obtain ⟨i0,hi,b9,cd,b5⟩:=info_parts kV;obtain ⟨R,hR⟩:∃ R,bF ⟨aA,code,outs,ins,cols,op,left,right,I⟩ l=R:=⟨_,rfl⟩
 rw[hR];have HE:=Fk hE;have J:=Fk h;have O:=Fk Z;have D:=Fk hj;have bq:=Fk b1;have a9:Hid (ins.length≤999000):=Fk (by omega);have cx:Hid (cols.length≤999000):=Fk (by omega);have cg:=Fk b8;have be:Hid (∀ W,aa [] w W→Calls Tryz.prog 48 #[FD (some ⟨4,0,none⟩) 10 10,FC (bs (aS l).text)] W fun e W'=>e=FF (FH FI (dj (aS l).text))∧W=W'):=Fk (fun W q=>cB (aS l).text W ((hE.one b0 Z).quiet q).env);obtain ⟨q,hq⟩:∃ q,dj (aS l).text=q:=⟨_,rfl⟩
 rw[hq] at be;have HQ:=Fk hq;obtain ⟨g,o,c,c0,z0,lb,lg,-,hn,hc,bj,k0,k1,k2,-⟩:=h.open';have bt:(0:Int)<(l.length:Int):=by omega
 have f1:w.cell? ⟨jb,1,none⟩=some (FH FI code):=hj.blk.cell 1;have f2:=hj.blk.frozen 1;have lj:=hj.blk.lt;have ca:=Fk ba;have bz:Hid ((aQ l.tail >>= fun p=>j7 ⟨aA,3,outs,ins++[p.1],cols,op,left,right,I⟩ p.2)=R):=Fk (by
  rw[←hR];unfold bF;rw[ba,if_neg (by rw[a8];decide)];rfl)
 have b7:bC [112,114,111,106,101,99,116] l=true:=by
  unfold bC;rw[a8,cT ba (by decide)];rfl
 have bX:=Fk b7;have b6:=Fk a8;clear hR hE h Z hj cm ci b8 b1 hq ba b7 a8;go_enter Tryz.func122,Tryz.ntmps122
 go_upto_region 0 with (fail)
 go_cut [] (fun wx=>wx=(w.setCell ⟨jb,1,none⟩ (FH FI (max q 0))).drew)
 case first =>
  go_region_law (first|(go_simp;go_at_call 48;refine (be.out _ (Fz [] w).drew).mono ?_;rintro e w6 ⟨rfl,rfl⟩))
  all_goals
   go_wp2;go_meet;exact rfl
 subst hcut;clear c0 z0 lb lg hn hc bj k0 k1 k2 bt lj f1 f2 be;have ad:aa [jb] w ((w.setCell ⟨jb,1,none⟩ (FH FI (max q 0))).drew):=((Fz _ _).setCell (.inl (by simp)) _).drew;have hj':aV ((w.setCell ⟨jb,1,none⟩ (FH FI (max q 0))).drew) w0.heap.size jb ⟨aA,max q 0,outs,ins,cols,op,left,right,I⟩ v2 v3 v4:=D.out.box ad ((D.out.blk.set 1 (FH FI (max q 0))).congr (by rfl)) rfl rfl rfl;have hp':=J.out.box D.out ad;have hk':=O.out.box bq.out ad;have hm:max q 0=3:=by rw[←HQ.out,da,ca.out];rfl
 rw[hm] at hj' hp' hk' ⊢;clear hm ad D J O;obtain ⟨y0,hy⟩:∃ x,(w.setCell ⟨jb,1,none⟩ (FH FI 3)).drew=x:=⟨_,rfl⟩
 rw[hy] at hj' hp' hk' ⊢;have D:=Fk hj';have J:=Fk hp';have O:=Fk hk';have a5:y0.cell? ⟨jb,1,none⟩=some (FH FI 3):=hj'.blk.cell 1;have lj:=hj'.blk.lt;obtain ⟨g,o,c,c0,z0,lb,lg,-,hn,hc,bj,k0,k1,k2,-⟩:=hp'.open';have bt:(0:Int)<(l.length:Int):=by omega
 clear hy hj' hp' hk' hn hc bj HQ;rw[b6.out] at k0;have wd:=(HE.out.one b0 O.out).env.words 3 (by decide);have b4:y0.cell? ⟨4,3,none⟩=some (FC (bs [112,114,111,106,101,99,116])):=wd;have cv:=Fq _ _ b4;clear wd;go_wp2_with fail
 refine (aT (s:=[112,114,111,106,101,99,116]) (r:=l.tail) (by unfold aR;rw[if_pos bX.out]) y0 J.out).mono ?_;rintro ev y1 ⟨rfl,hp,Z⟩;have HJ':=Fk (D.out.ps J.out Z);have HK':=Fk (O.out.trans Z);clear J D O c0 z0 lb lg k0 k1 k2 bt a5 lj b4 cv;have J:=Fk hp;have D:=HJ';have O:=HK';clear hp Z HJ' HK';have U:=bz;clear bz;have av:Hid (l.tail.length≤l.length):=Fk (by rw[List.length_tail];omega);obtain ⟨r0,bZ⟩:∃ r0,l.tail=r0:=⟨_,rfl⟩
 rw[bZ] at J U av;clear bZ bX b6 ca;have a5:y1.cell? ⟨jb,1,none⟩=some (FH FI 3):=D.out.blk.cell 1;have bo:=D.out.blk.lt;go_upto_region 13 with (fail)
 obtain ⟨A2,c2,hv,-⟩:=aq D.out.o3;subst hv;have fS:y1.cell? ⟨jb,3,none⟩=some (FD A2 (ins).length c2)∧y1.frozen? ⟨jb,3,none⟩=false:=⟨D.out.blk.cell 3,D.out.blk.frozen 3⟩;have lj:=D.out.blk.lt;have a7:=Fk (show (ins).length+1≤maxLen∧((ins).length+1)*16≤140737488355328 by have:=a9.out;simp only[maxLen];first|omega|(simp only[Fo,Fv,List.length_nil];omega));have bm:Hid (jb∉[b]):=Fk (by have:=D.out.blk.ty.ne J.out.ty (by decide);simpa using this);rcases V:aQ r0 with x|⟨a2,r2⟩
 ·have H:=U.out
  rw[V,au] at H;have HX:=Fk H.symm;have HC:Hid (∀ W,aa [] y1 W→Calls Tryz.prog 80 #[FE (some ⟨b,0,none⟩)] W fun e w'=>bS x e w'∧aa [b] W w'):=Fk (fun W z=>bN V W (J.out.keep z));clear H V;go_wp2_with fail
  go_region_law (first|(refine step_append_lies _ (by rfl) _ _ _ (by rfl) w0.heap.size 9 i0 _ 1 16 Tryz.underlying44 hi b9 cd b5 rfl (by decide) (FD A2 (ins).length c2) (ins).length (strs (ins)) (by rfl) ((D.out.ps J.out M.undrew).o3.alloc _) ⟨w6.heap.size,0,none⟩ 1 1 [FC (bs [])] (by rfl) rfl (Fx (heap_alloc_new _ _)) (by simp[Value.oneCell']) (by decide) a7.out.1 a7.out.2 (by have:=O.out.size;have:=M.size;have h9:y1.drew.heap.size=y1.heap.size:=rfl;simp;omega) _ rfl ?_;intro gw cap w7 a6 N bb b3;obtain ⟨ch,co⟩:=aC N (aB ⟨a1,br⟩ _) (fun e=>(aL (D.out.ps J.out M.undrew).o3 jb e).ne (D.out.ps J.out M.undrew).blk.ty (by decide) rfl))|(go_simp;go_at_call 80;refine (HC.out _ (Fz [] y1).drew).mono ?_;rintro e w6 ⟨⟨gi,rfl,hb⟩,M⟩;obtain ⟨a1,br⟩:=aH M fS bm.out;have cu:jb<w6.heap.size:=Fq w6 ⟨jb,3,none⟩ a1;dsimp only;(go_loud (refine cS ‹∀ (a:Act) (w:World),wpAny _ _ _ _ _ _ a w→_› (some 88) (FC (bs [])) ⟨rfl,by rw[HX.out];exact ⟨gi,rfl,hb⟩,O.out.trans M.undrew⟩ (fun hF=>?_)))))
  all_goals exact hF.out.elim
 have H:=U.out;rw[V,ar] at H;try dsimp only at H
 clear U;have U:=Fk H;clear H;have HC:Hid (∀ W,aa [] y1 W→Calls Tryz.prog 80 #[FE (some ⟨b,0,none⟩)] W fun e w'=>e=FF (FC (bs a2))∧Ps w' b r2∧aa [b] W w'):=Fk (fun W z=>bi V W (J.out.keep z));have a3:Hid (r2.length≤l.length):=Fk (by have:=av.out;have:=az V;omega);clear av;have av:=a3;clear a3;clear V;go_cut [] (fun wx=>∃ bk,aV wx w0.heap.size jb (⟨aA,3,outs,ins++[a2],cols,op,left,right,I⟩:Jb) v2 bk v4∧Ps wx b r2∧aa [b] w0 wx)
 case first =>
  go_region_law (first|(refine step_append_lies _ (by rfl) _ _ _ (by rfl) w0.heap.size 9 i0 _ 1 16 Tryz.underlying44 hi b9 cd b5 rfl (by decide) (FD A2 (ins).length c2) (ins).length (strs (ins)) (by rfl) ((D.out.ps J.out M.undrew).o3.alloc _) ⟨w6.heap.size,0,none⟩ 1 1 [FC (bs a2)] (by rfl) rfl (Fx (heap_alloc_new _ _)) (by simp[Value.oneCell']) (by decide) a7.out.1 a7.out.2 (by have:=O.out.size;have:=M.size;have h9:y1.drew.heap.size=y1.heap.size:=rfl;simp;omega) _ rfl ?_;intro gw cap w7 a6 N bb b3;obtain ⟨ch,co⟩:=aC N (aB ⟨a1,br⟩ _) (fun e=>(aL (D.out.ps J.out M.undrew).o3 jb e).ne (D.out.ps J.out M.undrew).blk.ty (by decide) rfl))|(go_simp;go_at_call 80;refine (HC.out _ (Fz [] y1).drew).mono ?_;rintro e w6 ⟨rfl,cj,M⟩;obtain ⟨a1,br⟩:=aH M fS bm.out;have cu:jb<w6.heap.size:=Fq w6 ⟨jb,3,none⟩ a1))
  all_goals
   go_wp2;go_meet;have hh:=aV.app3 (D.out.ps J.out M.undrew) cj (O.out.trans M.undrew) rfl bq.out N rfl a6 bb (by simp);exact ⟨_,hh.1,hh.2.1,hh.2.2⟩
 obtain ⟨bk,hj,hp,Z⟩:=hcut;obtain ⟨y2,rfl⟩:∃ y:World,y=wc:=⟨_,rfl⟩
 clear J D O HC fS lj a7 bm;have J:=Fk hp;have D:=Fk hj;have O:=Fk Z;have bv:Hid ((ins++[a2]).length≤999000+2):=Fk (by have:=a9.out;simp only[Fo,Fv,List.length_nil];omega);clear hp hj Z a9;generalize ins++[a2]=il2 at D U bv;have a9:=bv;clear bv;clear a5 bo;have a5:y2.cell? ⟨jb,1,none⟩=some (FH FI 3):=D.out.blk.cell 1;have bo:=D.out.blk.lt;have H:=U.out;clear U;have U:Hid (zP (⟨aA,3,outs,il2,cols,op,left,right,I⟩:Jb) r2=R):=Fk H;clear H;have H:=U.out;unfold zP at H;clear U;have U:=Fk H;clear H;rcases V:aR [98,121] r2 with x|r3
 ·have H:=U.out
  rw[V,au] at H;have HX:=Fk H.symm;have HC:=Fk (cO V y2 J.out);clear H V;go_wp2_with fail
  refine HC.out.mono ?_;rintro ev w9 ⟨⟨gi,rfl,hb⟩,bc⟩;exact ⟨rfl,by rw[HX.out];exact ⟨gi,rfl,hb⟩,O.out.trans bc⟩
 have H:=U.out;rw[V,ar] at H;try dsimp only at H
 clear U;have U:=Fk H;clear H;have HC:=Fk (aT V y2 J.out);have a3:Hid (r3.length≤l.length):=Fk (by have:=av.out;have:=aD V;omega);clear V av;have av:=a3;clear a3;go_wp2_with fail
 refine HC.out.mono ?_;rintro ev y3 ⟨rfl,hp,Z⟩;have HJ':=Fk (D.out.ps J.out Z);have HK':=Fk (O.out.trans Z);clear J D O HC;have J:=Fk hp;have D:=HJ';have O:=HK';clear hp Z HJ' HK';clear a5 bo;have hc:=lM y3 J.out (Ft av.out cg.out);rcases V:fh r3 with x|⟨a4,r4⟩
 ·have H:=U.out
  rw[V,au] at H;have HX:=Fk H.symm;rw[V] at hc;have ct:=Fk hc;clear H V hc;go_wp2_with fail
  refine ct.out.mono ?_;rintro ev w9 ⟨⟨gi,rfl,hb⟩,bc⟩;exact ⟨rfl,by rw[HX.out];exact ⟨gi,rfl,hb⟩,O.out.trans bc⟩
 have H:=U.out;rw[V,ar] at H;try dsimp only at H
 clear U;have U:=Fk H;clear H;rw[V] at hc;have HC:=Fk hc;clear V hc;go_wp2_with fail
 refine HC.out.mono ?_;rintro ev y4 ⟨⟨v4,rfl,a0,hp⟩,Z⟩;obtain ⟨A4,c4,hv,-⟩:=aq a0;subst hv;have cr:=Fk a0;have ce:Hid (cA v2 (FD A4 a4.length c4)):=Fk (cA.new D.out.o2 (fun g hg=>(a0.lt g hg).1));have cn:Hid (cA bk (FD A4 a4.length c4)):=Fk (cA.new D.out.o3 (fun g hg=>(a0.lt g hg).1));have cq:=Fk O.out.size;clear a0;have HJ':=Fk (D.out.ps J.out Z);have HK':=Fk (O.out.trans Z);clear J D O HC;have J:=Fk hp;have D:=HJ';have O:=HK';clear hp Z HJ' HK';have cy:=D.out.blk.frozen 4;have cz:y4.cell? ⟨jb,4,none⟩=some (v4):=D.out.blk.cell 4;have lj:=D.out.blk.lt;have ad:aa [jb] y4 (y4.setCell ⟨jb,4,none⟩ (FD A4 a4.length c4)):=(Fz _ _).setCell (.inl (by simp)) _;have HJ':=Fk (D.out.put4 (cG cr.out cq.out) ce.out cn.out);have HP':=Fk (J.out.box D.out ad);have HK':=Fk (O.out.box bq.out ad);clear ad;have HX:=Fk U.out.symm;clear U;go_wp2;first|go_end0|refine bodyPost_ret (results_none rfl _ _ _) rfl ?_
 exact ⟨by rw[HX.out];exact ⟨rfl,⟨_,_,_,HJ'.out⟩,HP'.out⟩,HK'.out⟩
end
section
def j0:Jb:=⟨0,0,[],[],[],[],⟨[],zV⟩,⟨[],zV⟩,0⟩
def jb (f:Fl) (k:Nat):Jb:=f.jobs.getD k j0
def nZ (f:Fl) (n:Bs):Bool:=f.ins.any fun x=>x.name==n
def n3 (f:Fl) (n:Bs):Option Nat:=f.jobs.findIdx? fun j=>j.outs.contains n
def gA (f:Fl) (done:List Nat) (n:Bs):Bool:=nZ f n||(match n3 f n with
 | none=>false
 | some k=>done.contains k)
def cL (f:Fl) (done:List Nat) (k:Nat):Bool:=(jb f k).ins.all (gA f done)
def eW (f:Fl) (out:List Nat):Option Nat:=(List.range f.jobs.length).find? fun i=> !out.contains i&&cL f out i
def wD (f:Fl) (out:List Nat):Option Nat:=(List.range f.jobs.length).find? fun i=> !out.contains i
def dL (f:Fl):Nat→List Nat→Except (Int×Int) (List Nat)
 | 0,out=> .ok out
 | n+1,out=>match eW f out with
  | some k=>dL f n (out++[k])
  | none=> .error (11,(jb f ((wD f out).getD 0)).at_)
def cM (f:Fl):Except (Int×Int) (List Nat):=dL f f.jobs.length []
def bL:List (Bs×Int)→List Bs→Except (Int×Int) (List Bs)
 | [],seen=> .ok seen
 | p::l,seen=>if p.1∈seen then .error (9,p.2) else bL l (p.1::seen)
def dh (h:List Jb):List (Bs×Int):=h.flatMap fun j=>j.outs.map fun n=>(n,j.at_)
def bD (seen:List Bs):List Jb→Except (Int×Int) Unit
 | []=> .ok ()
 | j::h=>if j.ins.any (fun n=> !decide (n∈seen)) then .error (7,j.at_) else bD seen h
def cE (seen:List Bs):List Pb→List Bs→Except (Int×Int) Unit
 | [],_=> .ok ()
 | x::l,told=>if x.src∉seen then .error (7,x.at_) else if x.name∈told then .error (9,x.at_) else cE seen l (x.name::told)
def dF (f:Fl):Except (Int×Int) Unit:=do
 let s ← bL (f.ins.map fun x=>(x.name,x.at_)) []
 let s ← bL (dh f.jobs) s
 bD s f.jobs
 cE s f.outs []
abbrev Cm:=List (Bs×List Cl)
def dM (m:Cm) (n:Bs):List Cl:=(m.lookup n).getD []
def kA:List In→Cm→Except (Int×Int) Cm
 | [],m=> .ok m
 | x::l,m=>if bV x.cols then kA l ((x.name,x.cols)::m) else .error (3,x.at_)
def gM:List Bs→List (List Cl)→Cm→Cm
 | n::ns,c::cs,m=>gM ns cs ((n,c)::m)
 | _,_,m=>m
def dZ (f:Fl):List Nat→Cm→Except (Int×Int) Cm
 | [],m=> .ok m
 | k::h,m=>match aK (jb f k) ((jb f k).ins.map (dM m)) with
  | .error e=> .error (e,(jb f k).at_)
  | .ok cs=>dZ f h (gM (jb f k).outs cs m)
def cN (f:Fl):Except (Int×Int) Cm:=do
 let m ← kA f.ins []
 dF f
 let l ← cM f
 dZ f l m
end
end Go.Proofs.YtecpeogejjibaaaGreatDoor
