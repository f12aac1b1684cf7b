/- Jobs as plain data: which columns a job makes, and what it makes of tables. No program in sight. Flows as plain data: how a text is cut, what it is read as, how a flow is written. No program in sight. Tokens and parsers in memory. The parser's must and name. The parser's names. The parser's names, walked. The parser's one: one of some marks. The package-level variables that flows lean on. The parser's value. The parser's arg. The parser's input. A job that is being read, in memory. The parser's where. The parser's of. The parser's body, where there is no job. The parser's body at its codes. The parser's body at its codes. Plans as plain data: which job may come, in which order, which columns there are. No program in sight. -/
import Derived.Test.YtecpeogejjibaaaGreatDoorEmoM4
import Derived.Test.YtecpeogejjibaaaGreatDoorEmoM3
import Derived.Lib.Join
import Derived.Lib.Bytealg
import Derived.Lib.Strings
import Derived.Lib.SlicesS
import Derived.Test.YtecpeogejjibaaaGreatDoorProg
import Derived.Test.YtecpeogejjibaaaGreatDoorEmoM1
import Derived.Deep.DeepCutAuto
set_option linter.unusedSimpArgs false
set_option linter.unusedVariables false
set_option maxRecDepth 100000
set_option maxHeartbeats 16000000
namespace Go.Proofs.YtecpeogejjibaaaGreatDoor
open Go.Lib renaming hid → Fx
open _root_.Nat renaming le_refl → Fy, le_trans → FD, zero_le → FF
open _root_.List renaming length_append → Fz, getElem?_eq_getElem → FA, length_cons → FG, getD_eq_getElem?_getD → FJ
open Go.World renaming block_lt_of_cell? → FC, news_of_block → FI
open aa renaming refl → FK
open ao renaming new → FL
open Go.Value renaming string → FM, slice → FN, pointer → FO, int → FR
open Go.Ending renaming returned → FP
open Go.Obj renaming cells → FQ
open Go.IntKind renaming i64 → FS
section
structure Ar where
 col:Bs
 val:Vl
deriving DecidableEq
structure Jb where
 at_:Int
 code:Int
 outs:List Bs
 ins:List Bs
 cols:List Bs
 op:Bs
 left:Ar
 right:Ar
 retry:Int
deriving DecidableEq
def zV:Vl:=⟨0,0,[]⟩
def zC:Cl:=⟨[],0⟩
def compares:List Bs:=[[61],[60,62],[60],[60,61],[62],[62,61]]
def nK (a:Vl) (op:Bs) (b:Vl):Bool :=
 if op=[61] then !cL a b && !cL b a
 else if op=[60,62] then cL a b||cL b a
 else if op=[60] then cL a b
 else if op=[60,61] then !cL b a
 else if op=[62] then cL b a
 else !cL a b
def an (l:List Cl) (nm:Bs):Option Nat:=l.findIdx? fun c=>c.name==nm
def dU (a:Ar) (l:List Cl):Int :=
 if a.col=[] then (if eS a.val then a.val.kind else 0)
 else match an l a.col with
  | none=>0
  | some k=>if a.val=zV then (l.getD k zC).kind else 0
def bB (a:Ar) (l:List Cl) (r:List Vl):Vl :=
 if a.col=[] then a.val else match an l a.col with
  | none=>zV
  | some k=>r.getD k zV
def au (code:Int):Nat×Nat:=if code=5∨code=7 then (2,1) else if code=9 then (1,2) else if code=1∨code=2∨code=3∨code=4∨code=6∨code=8 then (1,1) else (0,0)
def aX (j:Jb) (a:List Cl):Except Int (List (List Cl)) :=
 if j.op∉compares∨j.left.col=[] then .error 1
 else match an a j.left.col with
  | none=> .error 7
  | some k=>if dU j.right a≠(a.getD k zC).kind then .error 13 else .ok (List.replicate (if j.code=9 then 2 else 1) a)
def jQ (j:Jb) (a:List Cl):Except Int (List (List Cl)) :=
 if j.cols.length≠1∨¬(j.op=[43]∨j.op=[45]∨j.op=[42]) then .error 1
 else match an a (j.cols.headD []) with
  | none=> .error 7
  | some k=>if (a.getD k zC).kind≠1∨dU j.left a≠1∨dU j.right a≠1 then .error 13 else .ok [a]
def cY (a:List Cl):List Bs→List Bs→List Cl→Except Int (List Cl)
 | _,[],out=> .ok out
 | seen,n::ns,out=>match an a n with
  | none=> .error 7
  | some k=>if n∈seen then .error 9 else cY a (seen++[n]) ns (out++[a.getD k zC])
def cw (j:Jb) (a:List Cl):Except Int (List (List Cl)) :=
 if j.cols.length=0∨6<j.cols.length then .error 1
 else match cY a [] j.cols [] with
  | .error e=> .error e
  | .ok out=> .ok [if j.code=4 then a else out]
def cI (j:Jb) (a:List Cl):Except Int (List (List Cl)) :=
 if j.cols.length≠2∨¬(j.op=[115,117,109]∨j.op=[109,97,120]) then .error 1
 else match an a (j.cols.getD 0 []),an a (j.cols.getD 1 []) with
  | some k,some m=>if (a.getD m zC).kind≠1 then .error 13 else if k=m then .error 9 else .ok [[a.getD k zC,a.getD m zC]]
  | _,_=> .error 7
def kp (out:List Cl):Bool:=(List.range out.length).any fun i=>(an (out.take i) (out.getD i zC).name).isSome
def dj (j:Jb) (a b:List Cl):Except Int (List (List Cl)) :=
 if j.cols.length≠2 then .error 1
 else match an a (j.cols.getD 0 []),an b (j.cols.getD 1 []) with
  | some k,some m=>if (a.getD k zC).kind≠(b.getD m zC).kind then .error 13
   else if kp (a++b.take m++b.drop (m+1)) then .error 9
   else if 6<(a++b.take m++b.drop (m+1)).length then .error 4 else .ok [a++b.take m++b.drop (m+1)]
  | _,_=> .error 7
def aL (j:Jb) (ins:List (List Cl)):Except Int (List (List Cl)) :=
 if (au j.code).1=0∨ins.length≠(au j.code).1∨j.outs.length≠(au j.code).2 then .error 1
 else if j.code=1∨j.code=9 then aX j (ins.getD 0 [])
 else if j.code=2 then jQ j (ins.getD 0 [])
 else if j.code=3∨j.code=4 then cw j (ins.getD 0 [])
 else if j.code=5 then (if ins.getD 0 []≠ins.getD 1 [] then .error 13 else .ok [ins.getD 0 []])
 else if j.code=7 then dj j (ins.getD 0 []) (ins.getD 1 [])
 else if j.code=8 then cI j (ins.getD 0 [])
 else .ok [ins.getD 0 []]
def da (j:Jb) (a:Tb) (r:List Vl):Bool:=nK (bB j.left a.cols r) j.op (bB j.right a.cols r)
def jR (op:Bs) (x y:Int):Int:=if op=[43] then x+y else if op=[45] then x-y else x*y
def bu (j:Jb) (a:Tb) (r:List Vl):Option (List Vl) :=
 let n:=jR j.op (bB j.left a.cols r).num (bB j.right a.cols r).num
 if 1000000000<n∨n < -1000000000 then none
 else match an a.cols (j.cols.headD []) with
  | none=>none
  | some k=>some (r.set k ⟨(r.getD k zV).kind,n,(r.getD k zV).word⟩)
def aO (j:Jb) (a:Tb):List (List Vl)→List (List Vl)→Option (List (List Vl))
 | [],out=>some out
 | r::h,out=>match bu j a r with
  | none=>none
  | some x=>aO j a h (out++[x])
def fy (j:Jb) (a:Tb) (r:List Vl):List Vl:=j.cols.map fun n=>match an a.cols n with
 | none=>zV
 | some k=>r.getD k zV
def aB:List (List Vl)→List Bs→List (List Vl)→List (List Vl)
 | [],_,out=>out
 | r::h,seen,out=>if bQ r∈seen then aB h seen out else aB h (bQ r::seen) (out++[r])
def eg (a:List Cl) (n:Bs):Nat:=(an a n).getD 0
def cN (a:Tb) (ns:List Bs):List (List Vl):=eh (Dn (ns.map (eg a.cols))) a.rows
def bO (k m:Nat) (a b:List (List Vl)):List (List Vl):=a.flatMap fun x=>(b.filter fun y=>decide (x.getD k zV=y.getD m zV)).map fun y=>x++y.take m++y.drop (m+1)
def sy:Bs:=[115,117,109]
def q9 (op:Bs) (v w:Vl):Vl:=⟨v.kind,if op=sy then v.num+w.num else max v.num w.num,v.word⟩
def ip (op:Bs) (k m:Nat) (acc:List (Vl×Vl)) (r:List Vl):List (Vl×Vl):=match acc.getLast? with
 | none=>acc++[(r.getD k zV,r.getD m zV)]
 | some g=>if g.1=r.getD k zV then acc.dropLast++[(g.1,q9 op g.2 (r.getD m zV))] else acc++[(r.getD k zV,r.getD m zV)]
def aM (op:Bs) (k m:Nat) (h:List (List Vl)):List (Vl×Vl):=h.foldl (ip op k m) []
def dO (g:List (Vl×Vl)):List (List Vl):=g.map fun p=>[p.1,p.2]
def eW (j:Jb) (ins:List Tb) (out:List (List Cl)):Except Int (List (List (List Vl))) :=
 let a:=ins.getD 0 ⟨[],[]⟩
 if j.code=1∨j.code=9 then .ok ([a.rows.filter (da j a),a.rows.filter fun r=> !da j a r].take out.length)
 else if j.code=2 then (match aO j a a.rows [] with
  | none=> .error 2
  | some l=> .ok [l])
 else if j.code=3 then .ok [a.rows.map (fy j a)]
 else if j.code=5 then .ok [a.rows++(ins.getD 1 ⟨[],[]⟩).rows]
 else .ok [aB a.rows [] []]
def bp (j:Jb) (ins:List Tb) (out:List (List Cl)):Except Int (List (List (List Vl))) :=
 let a:=ins.getD 0 ⟨[],[]⟩
 let b:=ins.getD 1 ⟨[],[]⟩
 if j.code=4 then .ok [cN a j.cols]
 else if j.code=7 then .ok [bO (eg a.cols (j.cols.getD 0 [])) (eg b.cols (j.cols.getD 1 [])) a.rows b.rows]
 else if j.code=8 then
  let g:=aM j.op (eg a.cols (j.cols.getD 0 [])) (eg a.cols (j.cols.getD 1 [])) (cN a [j.cols.getD 0 []])
  if g.any fun p=> !eS p.2 then .error 2 else .ok [dO g]
 else eW j ins out
theorem gM {j:Jb} {ins:List Tb} {out:List (List Cl)} (h:j.code≠4) (I:j.code≠7) (D:j.code≠8):bp j ins out=eW j ins out:=by
 unfold bp;simp only;rw[if_neg h,if_neg I,if_neg D]
def dh:List (List Cl)→List (List (List Vl))→Except Int (List Tb)
 | c::cs,r::h=>if 60<r.length then .error 12 else match dh cs h with
  | .error e=> .error e
  | .ok l=> .ok (⟨c,r⟩::l)
 | _,_=> .ok []
def j5 (j:Jb) (ins:List Tb):Except Int (List Tb) :=
 if ins.any fun t=> !ak t then .error 1
 else match aL j (ins.map (·.cols)) with
  | .error e=> .error e
  | .ok out=>match bp j ins out with
   | .error e=> .error e
   | .ok h=>dh out h
def kq (j:Jb) (l:List Tb):Option Tb:=match j5 { j with outs:=[[120],[121]].take (1+(j.code / 9).toNat) } l with
 | .error _=>none
 | .ok out=>if out.length=([[120],[121]].take (1+(j.code / 9).toNat):List Bs).length then out.head? else none
structure Tk where
 kind:Int
 text:Bs
 at_:Int
deriving DecidableEq
structure In where
 at_:Int
 name:Bs
 cols:List Cl
deriving DecidableEq
structure Pb where
 at_:Int
 name:Bs
 src:Bs
deriving DecidableEq
structure Fl where
 ins:List In
 jobs:List Jb
 outs:List Pb
deriving DecidableEq
def jS (c:UInt8):Bool:=decide (97≤c.toNat)&&decide (c.toNat≤122)
def iY (c:UInt8):Bool:=decide (48≤c.toNat)&&decide (c.toNat≤57)
def sB (c:UInt8):Bool:=jS c||iY c
def gu (p:UInt8→Bool):Bs→Nat
 | []=>0
 | c::s=>if p c then gu p s+1 else 0
def aJ:List Bs:=[[60,62],[60,61],[62,61],[60],[62],[61],[43],[45],[42],[44],[59],[58],[46]]
def bT (s:Bs):List Bs→Nat
 | []=>0
 | m::ms=>if Lib.hasPrefix s m then m.length else bT s ms
def bM (s:Bs):Int×Nat :=
 if jS (s.headD 0) then (1,gu sB s)
 else if iY (s.headD 0) then (2,gu iY s)
 else if s.headD 0=39 then (3,if Lib.indexByte s.tail 39<0 then 0 else (Lib.indexByte s.tail 39).toNat+2)
 else (4,bT s aJ)
def fq:Nat→Bs→Nat→List Tk→Except (Int×Int) (List Tk)
 | 0,_,i,acc=> .ok (acc++[⟨5,[],i⟩])
 | _+1,[],i,acc=> .ok (acc++[⟨5,[],i⟩])
 | f+1,c::t,i,acc =>
  if c=32∨c=10 then fq f t (i+1) acc
  else if (bM (c::t)).2=0 then .error (3,i)
  else if acc.length=400 then .error (4,i)
  else fq f ((c::t).drop (bM (c::t)).2) (i+(bM (c::t)).2) (acc++[⟨(bM (c::t)).1,(c::t).take (bM (c::t)).2,i⟩])
def uC (s:Bs):Except (Int×Int) (List Tk):=fq s.length s 0 []
def Fu:Tk:=⟨5,[],0⟩
def aS (l:List Tk):Tk:=l.headD Fu
def fM {α:Type} (e:Int) (l:List Tk):Except (Int×Int) α:= .error (e,(aS l).at_)
def bC (s:Bs) (l:List Tk):Bool:=(aS l).kind != 5&&(aS l).text==s
def aR (s:Bs) (l:List Tk):Except (Int×Int) (List Tk):=if bC s l then .ok l.tail else fM 3 l
def aQ (l:List Tk):Except (Int×Int) (Bs×List Tk):=if (aS l).kind≠1 then fM 3 l else if 10<(aS l).text.length then fM 4 l else .ok ((aS l).text,l.tail)
def dW:Nat→List Tk→List Bs→Except (Int×Int) ((List Bs)×List Tk)
 | 0,l,acc=> .ok (acc,l)
 | n+1,l,acc=>if bC [44] l then do
   let (s,r) ← aQ l.tail
   dW n r (acc++[s])
  else .ok (acc,l)
def fk (l:List Tk):Except (Int×Int) ((List Bs)×List Tk):=do
 let (s,r) ← aQ l
 dW r.length r [s]
def kr (r:List Tk) (v:Vl):Except (Int×Int) (Vl×List Tk):=if eS v then .ok (v,r.tail) else fM 4 r
def jT (s:Bs):Bs:=(s.take (s.length-1)).drop 1
def eZ (neg:Bool) (r:List Tk):Except (Int×Int) (Vl×List Tk) :=
 if neg&&(aS r).kind != 2 then fM 3 r
 else if (aS r).kind=3 then kr r ⟨2,0,jT (aS r).text⟩
 else if (aS r).kind=2 then match Lib.atoiAll (aS r).text with
  | .ok n=>kr r ⟨1,if neg then -n else n,[]⟩
  | _=>fM 4 r
 else fM 3 r
def iq (l:List Tk):Except (Int×Int) (Vl×List Tk):=if bC [45] l then eZ true l.tail else eZ false l
def lN (l:List Tk):Except (Int×Int) (Ar×List Tk):=if (aS l).kind=1 then do
  let (s,r) ← aQ l
  .ok (⟨s,zV⟩,r)
 else do
  let (v,r) ← iq l
  .ok (⟨[],v⟩,r)
def ga (l:List Tk):List Bs→Option Nat
 | []=>none
 | m::ms=>if bC m l then some 0 else (ga l ms).map (· + 1)
def iu (ms:List Bs) (l:List Tk):Except (Int×Int) (Bs×List Tk):=match ga l ms with
 | none=>fM 3 l
 | some k=> .ok (ms.getD k [],l.tail)
def zI (l:List Tk):Except (Int×Int) (Cl×List Tk):=do
 let (s,r) ← aQ l
 let (k,r) ← iu [[105,110,116],[116,101,120,116]] r
 .ok (⟨s,if k=[116,101,120,116] then 2 else 1⟩,r)
def dH:Nat→List Tk→List Cl→Except (Int×Int) ((List Cl)×List Tk)
 | 0,l,acc=> .ok (acc,l)
 | n+1,l,acc=>do
  let (c,r) ← zI l
  if bC [44] r then dH n r.tail (acc++[c]) else .ok (acc++[c],r)
def eI (l:List Tk):Except (Int×Int) (In×List Tk):=do
 let r ← aR [105,110] l
 let (nm,r) ← aQ r
 let r ← aR [58] r
 let (cs,r) ← dH r.length r []
 let r ← aR [59] r
 .ok (⟨(aS l).at_,nm,cs⟩,r)
def xy:List Bs:=[[60,62],[60,61],[62,61],[60],[62],[61]]
def em (j:Jb) (l:List Tk):Except (Int×Int) (Jb×List Tk):=do
 let r ← aR [119,104,101,114,101] l
 let (s,r) ← aQ r
 let (o,r) ← iu xy r
 let (a,r) ← lN r
 .ok ({ j with left:=⟨s,zV⟩,op:=o,right:=a },r)
def xz (j:Jb) (l:List Tk):Except (Int×Int) (Jb×List Tk):=do
 let (a,r) ← aQ l
 let r ← aR [46] r
 let (b,r) ← aQ r
 .ok ({ j with ins:=j.ins++[a],cols:=j.cols++[b] },r)
def eJ:List Bs:=[[],[102,105,108,116,101,114],[115,101,116],[112,114,111,106,101,99,116],[115,111,114,116],[117,110,105,111,110],[100,105,115,116,105,110,99,116],[106,111,105,110],[103,114,111,117,112],[115,112,108,105,116]]
def iZ (c:Nat):Bs:=eJ.getD c []
def dV (s:Bs):List Bs→Nat→Nat
 | [],_=>0
 | m::ms,i=>if m=s then i else dV s ms (i+1)
def bV (s:Bs):Nat:=dV s eJ 0
def sC (j:Jb) (l:List Tk):Except (Int×Int) (Jb×List Tk):=do
 let r ← aR [58] l
 let (s,r) ← aQ r
 let r ← aR [61] r
 let (a,r) ← lN r
 let (o,r) ← iu [[43],[45],[42]] r
 let (b,r) ← lN r
 .ok ({ j with cols:=[s],left:=a,op:=o,right:=b },r)
def zJ (j:Jb) (l:List Tk):Except (Int×Int) (Jb×List Tk):=do
 let r ← aR [98,121] l
 let (ns,r) ← fk r
 .ok ({ j with cols:=ns },r)
def i6 (j:Jb) (l:List Tk):Except (Int×Int) (Jb×List Tk):=do
 let r ← aR [98,121] l
 let (a,r) ← aQ r
 let (o,r) ← iu [[115,117,109],[109,97,120]] r
 let (b,r) ← aQ r
 .ok ({ j with cols:=[a,b],op:=o },r)
def nL (j:Jb) (l:List Tk):Except (Int×Int) (Jb×List Tk):=do
 let (j,r) ← xz j l
 let r ← aR [44] r
 xz j r
def ku (j:Jb) (l:List Tk):Except (Int×Int) (Jb×List Tk):=do
 let (a,r) ← aQ l
 let r ← aR [44] r
 let (b,r) ← aQ r
 .ok ({ j with ins:=j.ins++[a]++[b] },r)
def j6 (j:Jb) (l:List Tk):Except (Int×Int) (Jb×List Tk) :=
 if j.code=1∨j.code=9 then em j l
 else if j.code=2 then sC j l
 else if j.code=3∨j.code=4 then zJ j l
 else if j.code=8 then i6 j l
 else .ok (j,l)
def bH (j:Jb) (l:List Tk):Except (Int×Int) (Jb×List Tk) :=
 if bV (aS l).text=0∨(aS l).kind≠1 then fM 3 l
 else if bV (aS l).text=7 then nL { j with code:=(bV (aS l).text:Int) } l.tail
 else if bV (aS l).text=5 then ku { j with code:=(bV (aS l).text:Int) } l.tail
 else do
  let (a,r) ← aQ l.tail
  j6 { j with code:=(bV (aS l).text:Int),ins:=j.ins++[a] } r
def dZ (l:List Tk):Except (Int×Int) (Int×List Tk) :=
 if bC [114,101,116,114,121] l then
  if (aS l.tail).kind≠2 then fM 3 l.tail
  else match Lib.atoiAll (aS l.tail).text with
   | .ok n=>if 5<n then fM 4 l.tail else .ok (n,l.tail.tail)
   | _=>fM 4 l.tail
 else .ok (0,l)
def BX (D:Int) (outs:List Bs) (h:Int):Jb:=⟨D,0,outs,[],[],[],⟨[],zV⟩,⟨[],zV⟩,h⟩
def kV (l:List Tk):Except (Int×Int) (Jb×List Tk):=do
 let r ← aR [106,111,98] l
 let (os,r) ← fk r
 let (n,r) ← dZ r
 let r ← aR [61] r
 let (j,r) ← bH (BX (aS l).at_ os n) r
 let r ← aR [59] r
 .ok (j,r)
def mZ (l:List Tk):Except (Int×Int) (Pb×List Tk):=do
 let r ← aR [111,117,116] l
 let (a,r) ← aQ r
 let r ← aR [61] r
 let (b,r) ← aQ r
 let r ← aR [59] r
 .ok (⟨(aS l).at_,a,b⟩,r)
def cS {α:Type} (w:Bs) (h:List Tk→Except (Int×Int) (α×List Tk)):Nat→List Tk→List α→Except (Int×Int) ((List α)×List Tk)
 | 0,l,acc=> .ok (acc,l)
 | n+1,l,acc=>if bC w l then (if acc.length=16 then fM 4 l else do
   let (x,r) ← h l
   cS w h n r (acc++[x]))
  else .ok (acc,l)
def qc (l:List Tk):Except (Int×Int) (Fl×List Tk):=do
 let (a,r) ← cS [105,110] eI l.length l []
 let (b,r) ← cS [106,111,98] kV r.length r []
 let (c,r) ← cS [111,117,116] mZ r.length r []
 .ok (⟨a,b,c⟩,r)
def lO (l:List Tk):Except (Int×Int) Fl:=do
 let (f,r) ← qc l
 if (aS r).kind≠5 then fM 3 r else .ok f
def fm (s:Bs):Except (Int×Int) Fl:=do
 let l ← uC s
 lO l
end
section
open Go.RowKit Go.BigFrame
def uD (t:Tk):List Value:=[FR FS t.kind,FM (bs t.text),FR FS t.at_]
def eo (l:List Tk):List Value:=l.flatMap uD
def i7 (l:List Tk):Prop:=∃ h t,l=h++[t]∧t.kind=5
theorem i7.pos {l:List Tk} (h:i7 l):0<l.length:=by
 obtain ⟨D,t,rfl,_⟩:=h;simp
theorem i7.tail {l:List Tk} (h:i7 l) (J:(aS l).kind≠5):i7 l.tail:=by
 obtain ⟨D,t,rfl,I⟩:=h
 cases D with
 | nil=>exact absurd I J
 | cons a D=>exact ⟨D,t,rfl,I⟩
theorem ec {s:Bs} {l:List Tk} (h:bC s l=true):(aS l).kind≠5:=by
 unfold bC at h;intro e;rw[e] at h;simp at h
def dP (W:World) (g:Nat) (e:TypeId):Prop:=∃ cs h,W.heap[g]? = some (FQ cs e h)
theorem dP.keep {W W':World} {g:Nat} {e:TypeId} {L:List Nat} (h:dP W g e) (D:aa L W W') (J:g∉L):dP W' g e:=by
 obtain ⟨cs,I,h⟩:=h;exact ⟨cs,I,(D.block g (Array.getElem?_eq_some_iff.1 h).1 J).trans h⟩
theorem dP.ne {W:World} {g J:Nat} {e I:TypeId} (h:dP W g e) (h':dP W J I) (D:e≠I):g≠J:=by
 rintro rfl;obtain ⟨cs,O,h⟩:=h;obtain ⟨cs',M,h'⟩:=h';rw[h] at h';injection h' with h';injection h' with _ N;exact D N
theorem ao.ty {W:World} {g:Nat} {e:TypeId} {cs:Array Value} (h:ao W g e cs):dP W g e:=⟨cs,_,h⟩
def BK (t:Tk):Prop:=t.text.length≤1000000∧(t.kind=2→∀ c∈t.text,iY c=true)∧(t.kind=3→2≤t.text.length)
def Ps (W:World) (b:Nat) (l:List Tk):Prop :=
 ∃ g o c,ao W b 111 #[FN (some ⟨g,o,none⟩) l.length c]∧(dP W g 114∧g<b)∧l.length≤c∧c≤9223372036854775807∧i7 l∧(∀ t∈l,BK t) ∧
  ∀ j u,(eo l)[j]? = some u→W.cell? ⟨g,o+j,none⟩=some u
theorem Ps.endT {W:World} {b:Nat} {l:List Tk} (h:Ps W b l):i7 l:=by obtain ⟨_,_,_,_,_,_,_,h,_⟩:=h;exact h
theorem Ps.ty {W:World} {b:Nat} {l:List Tk} (h:Ps W b l):dP W b 111:=by obtain ⟨_,_,_,h,_⟩:=h;exact h.ty
theorem Ps.lt {W:World} {b:Nat} {l:List Tk} (h:Ps W b l):b<W.heap.size:=by obtain ⟨_,_,_,h,_⟩:=h;exact h.lt
theorem Ps.far {W W':World} {b:Nat} {l:List Tk} {L:List Nat} (h:Ps W b l) (D:aa L W W') (hL:∀ x∈L,∃ e,dP W x e∧e≠111∧e≠114):Ps W' b l:=by
 obtain ⟨g,o,c,Z,I,h3,h4,h5,h6,h7⟩:=h;have n1:b∉L:=fun J=>by
  obtain ⟨e,M,O,N⟩:=hL b J;exact M.ne Z.ty O rfl
 have U:g∉L:=fun J=>by
  obtain ⟨e,M,O,N⟩:=hL g J;exact M.ne I.1 N rfl
 exact ⟨g,o,c,Z.keep D n1,⟨I.1.keep D U,I.2⟩,h3,h4,h5,h6,fun j u hu=>D.cell_of (h7 j u hu) U⟩
theorem Ps.keep {W W':World} {b:Nat} {l:List Tk} (h:Ps W b l) (D:aa [] W W'):Ps W' b l:=h.far D (fun x I=>by cases I)
theorem Ps.open' {W:World} {b:Nat} {l:List Tk} (h:Ps W b l):∃ g o c,W.cell? ⟨b,0,none⟩=some (FN (some ⟨g,o,none⟩) l.length c)∧W.frozen? ⟨b,0,none⟩=false∧b<W.heap.size∧g<W.heap.size∧g≠b∧0<l.length∧l.length≤c∧c≤9223372036854775807 ∧
  W.cell? ⟨g,o,none⟩=some (FR FS (aS l).kind)∧W.cell? ⟨g,o+1,none⟩=some (FM (bs (aS l).text))∧W.cell? ⟨g,o+2,none⟩=some (FR FS (aS l).at_)∧BK (aS l):=by
 obtain ⟨g,o,c,I,N,U,O,h5,Z,D⟩:=h;have M:=h5.pos
 cases l with
 | nil=>simp at M
 | cons t r =>
  have J:=D 0 (FR FS t.kind) rfl;exact ⟨g,o,c,I.cell 0,I.frozen 0,I.lt,FC _ _ J,Nat.ne_of_lt N.2,M,U,O,J,D 1 (FM (bs t.text)) rfl,D 2 (FR FS t.at_) rfl,Z t (List.mem_cons_self ..)⟩
theorem Ps.step {W:World} {b g o c:Nat} {l:List Tk} (h:Ps W b l) (hc:W.cell? ⟨b,0,none⟩=some (FN (some ⟨g,o,none⟩) l.length c)) (hk:(aS l).kind≠5) {n:Nat} {a:Addr} {d:Nat} (hn:n=l.length-1) (ha:a=⟨g,o+3,none⟩) (hd:d=c-1):Ps (W.setCell ⟨b,0,none⟩ (FN (some a) n d)) b l.tail∧aa [b] W (W.setCell ⟨b,0,none⟩ (FN (some a) n d)):=by
 subst ha hn hd;obtain ⟨N,M,U,h1,O,h3,h4,h5,h6,h7⟩:=h;have e:(Value.slice (some ⟨N,M,none⟩) l.length U)=FN (some ⟨g,o,none⟩) l.length c:=Option.some.inj ((h1.cell 0).symm.trans hc);injection e with J e2 e3;injection J with J;injection J with J e4;subst J e4 e3;have ht:=h5.tail hk;have I:N≠b:=Nat.ne_of_lt O.2;have D:aa [b] W (W.setCell ⟨b,0,none⟩ (FN (some ⟨N,M+3,none⟩) (l.length-1) (U-1))):=aa.setCell (FK _ _) (.inl (by simp)) _;refine ⟨⟨N,M+3,U-1,?_,⟨O.1.keep D (by simpa using I),O.2⟩,by rw[List.length_tail];omega,by omega,ht,fun t hm=>h6 t (List.mem_of_mem_tail hm),fun j u Z=>?_⟩,D⟩
 ·exact (h1.set 0 _).congr (by simp[List.length_tail])
 cases l with
 | nil=>cases Z
 | cons t r =>
  have:=h7 (j+3) u (by simpa[eo,uD] using Z);rw[show M+3+j=M+(j+3) by omega];exact D.cell_of this (by simpa using I)
def bW (x:Int×Int) (e:Ending) (w':World):Prop:=∃ h,e= .panicked [{ v:= .iface 104 (.agg #[.iface 73 (FO (some ⟨h,0,none⟩))]),recovered:=false }]∧ao w' h 75 #[FR FS x.1,FR FS x.2]
attribute [local go_sem] ag ab ae af
theorem kW (s:Bs) {l:List Tk} {b:Nat} (w:World) (h:Ps w b l) :
  Calls Tryz.prog 76 #[FO (some ⟨b,0,none⟩),FM (bs s)] w fun e w'=>e=FP (.bool (bC s l))∧w=w':=by
 obtain ⟨g,o,c,O,-,lb,lg,-,hn,U,J,k0,Z,k2,-⟩:=h.open';have M:(0:Int)<(l.length:Int):=by omega
 obtain ⟨B,I⟩:∃ B,bC s l=B:=⟨_,rfl⟩
 have D:=Fx I;rw[I];unfold bC at D;clear h I;cases N:(aS l).kind != 5
 all_goals
  rw[N] at D;go_enter Tryz.func76,Tryz.ntmps76
  go_wp2;go_ret;exact ⟨by rw[←D.out];rfl,rfl⟩
theorem fa (s:Bs) {l:List Tk} {b:Nat} (w:World) (h:Ps w b l) :
  Calls Tryz.prog 119 #[FO (some ⟨b,0,none⟩),FM (bs s)] w fun e w'=>e=FP (.bool (bC s l))∧Ps w' b (if bC s l then l.tail else l)∧aa [b] w w':=by
 have J:=Fx (kW s w h);obtain ⟨g,o,c,M,z0,lb,lg,-,hn,hc,N,k0,k1,k2,-⟩:=h.open';have U:(0:Int)<(l.length:Int):=by omega
 cases I:bC s l with
 | false =>
  rw[I] at J;have H:=Fx h;clear h I;go_enter Tryz.func119,Tryz.ntmps119
  go_wp2_with fail
  refine J.out.mono ?_;rintro Z O ⟨rfl,rfl⟩;go_wp2;go_ret;exact ⟨rfl,H.out,FK _ _⟩
 | true =>
  have D:=ec I;have h2:1<l.length:=by have:=(h.endT.tail D).pos;rw[List.length_tail] at this;omega
  have HT:=Fx (fun n a d=> @Ps.step w b g o c l h M D n a d);have h3:(1:Int)≤(l.length:Int):=by omega
  have h4:(1:Int)<(c:Int):=by omega
  rw[I] at J;clear h I D;go_enter Tryz.func119,Tryz.ntmps119
  go_wp2_with fail
  refine J.out.mono ?_;rintro Z O ⟨rfl,rfl⟩;go_wp2;go_ret;exact ⟨rfl,HT.out _ _ _ (by omega) rfl (by omega)⟩
theorem bw (x:Int) {l:List Tk} {b:Nat} (w:World) (h:Ps w b l) :
  Calls Tryz.prog 44 #[FO (some ⟨b,0,none⟩),FR FS x] w fun e w'=>bW (x,(aS l).at_) e w'∧aa [] w w':=by
 obtain ⟨g,o,c,J,z0,lb,O,-,Z,M,D,k0,N,U,-⟩:=h.open';have I:(0:Int)<(l.length:Int):=by omega
 clear h;go_enter Tryz.func44,Tryz.ntmps44
 go_wp2;exact ⟨rfl,⟨_,rfl,FL _ _ _⟩,(FK _ _).alloc _⟩
end
section
open Go.RowKit Go.BigFrame
attribute [local go_sem] ag ab ae af
theorem nM {s:Bs} {l r:List Tk} (h:aR s l= .ok r):bC s l=true∧r=l.tail:=by
 unfold aR at h;split at h
 ·rename_i D
  exact ⟨D,(Except.ok.inj h).symm⟩
 cases h
theorem xB {s:Bs} {l:List Tk} {x:Int×Int} (h:aR s l= .error x):bC s l=false∧x=(3,(aS l).at_):=by
 unfold aR at h;split at h
 ·cases h
 rename_i D;exact ⟨by simpa using D,(Except.error.inj h).symm⟩
theorem aT {s:Bs} {l r:List Tk} {b:Nat} (J:aR s l= .ok r) (w:World) (h:Ps w b l) :
  Calls Tryz.prog 79 #[FO (some ⟨b,0,none⟩),FM (bs s)] w fun e w'=>e=FP (.tuple #[])∧Ps w' b r∧aa [b] w w':=by
 obtain ⟨I,rfl⟩:=nM J;have D:=fa s w h;rw[I,if_pos rfl] at D;have O:=Fx D;clear h J I D;go_enter Tryz.func79,Tryz.ntmps79
 go_wp2_with fail
 refine O.out.mono ?_;rintro Z U ⟨rfl,N,M⟩;go_wp2;go_end0
 exact ⟨rfl,N,M⟩
theorem cO {s:Bs} {l:List Tk} {b:Nat} {x:Int×Int} (M:aR s l= .error x) (w:World) (h:Ps w b l) :
  Calls Tryz.prog 79 #[FO (some ⟨b,0,none⟩),FM (bs s)] w fun e w'=>bW x e w'∧aa [b] w w':=by
 obtain ⟨N,rfl⟩:=xB M;have D:=fa s w h;rw[N,if_neg (by simp)] at D;have HT:=Fx D;clear h M N D;go_enter Tryz.func79,Tryz.ntmps79
 go_wp2_with fail
 refine HT.out.mono ?_;rintro ev w1 ⟨rfl,J,O⟩;have HP:=Fx J;clear J;go_wp2_with fail
 refine (bw 3 w1 HP.out).mono ?_;rintro ev w2 ⟨⟨Z,rfl,U⟩,I⟩;exact ⟨rfl,⟨Z,rfl,U⟩,O.trans I.of_nil⟩
theorem i8 {l r:List Tk} {s:Bs} (h:aQ l= .ok (s,r)):(aS l).kind=1∧(aS l).text.length≤10∧s=(aS l).text∧r=l.tail:=by
 unfold aQ at h;split at h
 ·cases h
 rename_i J;split at h
 ·cases h
 rename_i M;injection h with h;injection h with I D;exact ⟨by simpa using J,by omega,I.symm,D.symm⟩
theorem xC {l:List Tk} {x:Int×Int} (h:aQ l= .error x):((aS l).kind≠1∧x=(3,(aS l).at_))∨((aS l).kind=1∧10<(aS l).text.length∧x=(4,(aS l).at_)):=by
 unfold aQ at h;split at h
 ·rename_i D
  exact .inl ⟨D,(Except.error.inj h).symm⟩
 rename_i D;split at h
 ·rename_i I
  exact .inr ⟨by simpa using D,I,(Except.error.inj h).symm⟩
 cases h
theorem Ps.more {W:World} {b:Nat} {l:List Tk} (h:Ps W b l) (D:(aS l).kind≠5):1<l.length:=by
 have:=(h.endT.tail D).pos;rw[List.length_tail] at this;omega
theorem bi {s:Bs} {l r:List Tk} {b:Nat} (M:aQ l= .ok (s,r)) (w:World) (h:Ps w b l) :
  Calls Tryz.prog 80 #[FO (some ⟨b,0,none⟩)] w fun e w'=>e=FP (FM (bs s))∧Ps w' b r∧aa [b] w w':=by
 obtain ⟨J,h2,rfl,rfl⟩:=i8 M;have D:(aS l).kind≠5:=by rw[J];decide
 have h3:=h.more D;have HP:=Fx h;obtain ⟨g,o,c,N,z0,lb,lg,-,hn,hc,O,k0,k1,k2,-⟩:=h.open';rw[J] at k0;have Z:(0:Int)<(l.length:Int):=by omega
 have U:(1:Int)≤(l.length:Int):=by omega
 have h4:(1:Int)<(c:Int):=by omega
 have h5:¬(10:Int)<((aS l).text.length:Int):=by omega
 have HT:=Fx (fun n a d=> @Ps.step w b g o c l h N D n a d);clear h M J D;go_enter Tryz.func80,Tryz.ntmps80
 go_wp2;go_ret;have I:=HT.out (l.length-1) ⟨g,o+3,none⟩ (c-1) rfl rfl rfl;exact ⟨rfl,I.1.keep ((FK _ _).alloc _),I.2.alloc _⟩
theorem bR {l:List Tk} {b:Nat} {x:Int×Int} (M:aQ l= .error x) (w:World) (h:Ps w b l) :
  Calls Tryz.prog 80 #[FO (some ⟨b,0,none⟩)] w fun e w'=>bW x e w'∧aa [b] w w':=by
 have O:=Fx h;obtain ⟨g,o,c,c0,z0,lb,lg,-,hn,hc,ad,k0,k1,k2,hl⟩:=h.open';have av:(0:Int)<(l.length:Int):=by omega
 rcases xC M with ⟨I,rfl⟩|⟨I,Z,rfl⟩
 ·have h1':((aS l).kind != 1)=true:=by rw[bne_iff_ne];exact I
  clear h M I;go_enter Tryz.func80,Tryz.ntmps80
  go_wp2_with fail
  refine (bw 3 _ (O.out.keep ((FK _ _).alloc _))).mono ?_;rintro ev U ⟨⟨N,rfl,J⟩,D⟩;exact ⟨rfl,⟨N,rfl,J⟩,(((FK _ _).alloc _).trans D).of_nil⟩
 rw[I] at k0;have h2':(10:Int)<((aS l).text.length:Int):=by omega
 clear h M I Z;go_enter Tryz.func80,Tryz.ntmps80
 go_wp2_with fail
 refine (bw 4 _ (O.out.keep ((FK _ _).alloc _))).mono ?_;rintro ev U ⟨⟨N,rfl,J⟩,D⟩;exact ⟨rfl,⟨N,rfl,J⟩,(((FK _ _).alloc _).trans D).of_nil⟩
theorem kX:(Tryz.prog.info? 9).map (fun i=>(i.zero,i.size,i.bytes))=some (some (FM ⟨#[]⟩),1,16):=by kernel_rfl
theorem ra {W:World} {g base n size:Nat} {e:TypeId} {cs:Array Value} (h:ao W g e cs) (I:base≤g) (D:cs.size=n*size) (J:n≤maxLen):W.ownsRow base e size (FN (some ⟨g,0,none⟩) n n) n cs.toList :=
 ⟨by simpa using D,.inr ⟨g,n,cs,rfl,I,h,Fy _,J,D,by rw[←D];exact List.take_of_length_le (by simp)⟩⟩
def nN (b:Nat) (W:World):Nat:=match W.cell? ⟨b,0,none⟩ with
 | some (FN _ n _)=>n
 | _=>0
theorem Ps.left {W:World} {b:Nat} {l:List Tk} (h:Ps W b l):nN b W=l.length:=by
 obtain ⟨g,o,c,D,_⟩:=h;unfold nN;rw[D.cell 0];rfl
theorem gy {W W':World} {base b n size:Nat} {e:TypeId} {v:Value} {xs:List Value} {l:List Tk} (h:W.ownsRow base e size v n xs) (U:Ps W b l) (N:aa [b] W W') (he:e≠111):W'.ownsRow base e size v n xs:=by
 obtain ⟨g,o,c,J,_⟩:=U;refine aC h N (fun M I Z=>?_);have hm':M=b:=by simpa using Z
 subst hm';rcases h.2 with ⟨rfl,_⟩|⟨g2,cap,cur,rfl,_,D,_⟩
 ·cases I
 have:g2=M:=by simpa[Value.ownBlock] using I
 subst this;unfold ao at J;rw[J] at D;injection D with D;injection D with _ O;exact he O.symm
theorem Ps.grown {W W':World} {b:Nat} {l:List Tk} {D:Option Nat} {e:TypeId} (h:Ps W b l) (J:W.grownBy W' D) (M:∀ x,D=some x→dP W x e) (N:e≠111) (O:e≠114):Ps W' b l :=
 h.far (L:=D.toList) (aa.grown (FK _ W) J (fun g J=> .inl (by rw[J];simp))) (fun x I=>⟨e,M x (by
  cases D with
  | none=>cases I
  | some y=>simp at I;rw[I]),N,O⟩)
theorem aK {W:World} {base n size:Nat} {e:TypeId} {v:Value} {xs:List Value} (h:W.ownsRow base e size v n xs):∀ x,v.ownBlock=some x→dP W x e:=fun x D=>by
 rcases h.2 with ⟨rfl,_⟩|⟨I,cap,cur,rfl,_,J,_⟩
 ·cases D
 have:I=x:=by simpa[Value.ownBlock] using D
 subst this;exact ⟨_,_,J⟩
theorem cK {W:World} {base D n size:Nat} {e:TypeId} {v:Value} {xs:List Value} (h:W.ownsRow D e size v n xs) (J:base≤D):W.ownsRow base e size v n xs:=by
 refine ⟨h.1,?_⟩;rcases h.2 with N|⟨g,cap,cur,I,M,r⟩
 ·exact .inl N
 exact .inr ⟨g,cap,cur,I,FD J M,r⟩
def zK (R:Except (Int×Int) (List Bs×List Tk)) (b base:Nat) (e:Ending) (w':World):Prop:=match R with
 | .ok (ns,r)=>∃ v,e=FP v∧w'.ownsRow base 9 1 v ns.length (strs ns)∧Ps w' b r
 | .error x=>bW x e w'
theorem lP {l:List Tk} {b:Nat} (w:World) (h:Ps w b l) (a1:l.length≤1000000) :
  Calls Tryz.prog 121 #[FO (some ⟨b,0,none⟩)] w fun e w'=>zK (fk l) b w.heap.size e w'∧aa [b] w w':=by
 obtain ⟨i0,hi,bl,bo,bk⟩:=info_parts kX;have HL:=Fx a1;obtain ⟨R,hR⟩:∃ R,fk l=R:=⟨_,rfl⟩
 rw[hR];unfold fk at hR;rcases J:aQ l with x|⟨s,r⟩
 ·rw[J] at hR
  have HR:Hid (R= .error x):=Fx hR.symm;have H:=Fx (bR J w h);clear hR J h a1;go_enter Tryz.func121,Tryz.ntmps121
  go_wp2_with fail
  refine H.out.mono ?_;rintro ev w2 ⟨⟨gi,rfl,hb⟩,Z⟩;exact ⟨rfl,by rw[HR.out];exact ⟨gi,rfl,hb⟩,Z⟩
 rw[J] at hR;have hR':dW r.length r [s]=R:=hR;have ba:r.length<l.length:=by
  obtain ⟨_,_,_,e⟩:=i8 J;have:=h.endT.pos;rw[e,List.length_tail];omega
 have a9:=Fx ba;have HR:=Fx hR';have H:=Fx (bi J w h);clear hR hR' J h a1 ba;go_enter Tryz.func121,Tryz.ntmps121
 go_wp2_with fail
 refine H.out.mono ?_;rintro ev w2 ⟨rfl,a7,Z⟩;have bj:=Fx (a7.keep ((FK _ _).alloc (FQ #[FM (bs s)] 9)));have be:=Fx (Z.alloc (FQ #[FM (bs s)] 9));have bb:Hid ((w2.alloc (FQ #[FM (bs s)] 9)).ownsRow w.heap.size 9 1 (FN (some ⟨w2.heap.size,0,none⟩) 1 1) [s].length (strs [s])):=Fx (ra (FL w2 9 #[FM (bs s)]) Z.size rfl (by decide));clear a7 Z;go_wp2_with fail
 go_loopw [3] (fun v wr=>∃ (acc:List Bs) (q:List Tk) (n:Nat),Hid (dW n q acc=R)∧q.length≤n∧acc.length+q.length≤l.length∧Hid (Ps wr b q)∧Hid (wr.ownsRow w.heap.size 9 1 v acc.length (strs acc))∧Hid (aa [b] w wr)) (fun _ wr=>nN b wr)
 case atStart=>exact ⟨[s],r,r.length,HR,Fy _,by have:=a9.out;simp;omega,bj,bb,be⟩
 clear HR a9 bj bb be;obtain ⟨acc,q,n,HR,b1,bz,HP,HO,HK⟩:=hrel;have b0:=HP.out.endT.pos;have HM:=Fx HP.out.left;have HT:=fa [44] wr HP.out
 cases hs:bC [44] q with
 | false =>
  rw[hs] at HT;have av:=Fx HT;have U:Hid (R= .ok (acc,q)):=Fx (by
   rw[←HR.out];obtain ⟨m,rfl⟩:∃ m,n=m+1:=⟨n-1,by omega⟩
   unfold dW;rw[hs];rfl)
  clear HT hs;go_wp2_with fail
  refine av.out.mono ?_;rintro ev w3 ⟨rfl,ad,M⟩;have aA:=Fx (gy HO.out HP.out M (by decide));go_wp2;go_ret;exact ⟨by rw[U.out];exact ⟨_,rfl,aA.out,ad⟩,HK.out.trans M⟩
 | true =>
  rw[hs,if_pos rfl] at HT;have av:=Fx HT;have bZ:=HP.out.more (ec hs);have HS:=Fx hs;clear HT hs;go_wp2_with fail
  refine av.out.mono ?_;rintro ev w3 ⟨rfl,ad,M⟩;have aA:=Fx (gy HO.out HP.out M (by decide));have O:=Fx ad;have a0:=Fx (HK.out.trans M);clear ad M av;rcases J:aQ q.tail with x|⟨s',r'⟩
  ·have U:Hid (R= .error x):=Fx (by
    rw[←HR.out];obtain ⟨m,rfl⟩:∃ m,n=m+1:=⟨n-1,by omega⟩
    unfold dW;rw[if_pos HS.out,J];rfl)
   have H:=Fx (bR J w3 O.out);clear J;go_wp2_with fail
   refine H.out.mono ?_;rintro ev w4 ⟨⟨gi,rfl,hb⟩,N⟩;exact ⟨rfl,by rw[U.out];exact ⟨gi,rfl,hb⟩,a0.out.trans N⟩
  have hr':r'.length+2≤q.length:=by
   obtain ⟨_,_,_,e⟩:=i8 J;have:=O.out.endT.pos;rw[e,List.length_tail,List.length_tail];rw[List.length_tail] at this;omega
  have U:Hid (dW (n-1) r' (acc++[s'])=R):=Fx (by
   rw[←HR.out];obtain ⟨m,rfl⟩:∃ m,n=m+1:=⟨n-1,by omega⟩
   conv=>rhs;unfold dW
   rw[if_pos HS.out,J];rfl)
  have H:=Fx (bi J w3 O.out);have a5:=Fx (show acc.length+1≤maxLen∧(acc.length+1)*16≤140737488355328 by have:=HL.out;simp only[maxLen];omega);clear J;go_wp2_with fail
  refine H.out.mono ?_;rintro ev w4 ⟨rfl,a6,N⟩;have a2:=Fx (gy aA.out O.out N (by decide));have bm:=Fx (a6.keep ((FK _ _).alloc (FQ #[FM (bs s')] 9)));have a4:=Fx (a0.out.trans N);have br:=Fx (show w.heap.size≤w4.heap.size+1 from Nat.le_succ_of_le a4.out.size);clear a6 N H aA O a0;go_wp2_with (at_builtin;refine wpList_append_lies _ rfl _ _ 44 rfl _ 9 i0 _ 1 16 Tryz.underlying44 hi bl bo bk rfl (by decide) _ acc.length (strs acc) rfl (a2.out.alloc _) ⟨w4.heap.size,0,none⟩ 1 1 [FM (bs s')] rfl rfl (FI (heap_alloc_new _ _)) (by simp[Value.oneCell']) (by decide) a5.out.1 a5.out.2 (by simp;exact br.out) _ rfl ?_;intro gw bX w8 I D a3 a8)
  have bq:=Fx ((a4.out.alloc _).grown D (fun g hg=> .inr (a2.out.lt g hg).1));have bc:=Fx (bm.out.grown D (fun x hx=>(aK a2.out x hx).keep ((FK [] _).alloc _) (by simp)) (by decide) (by decide));rw[←fE] at I;have bv:Hid (w8.ownsRow w.heap.size 9 1 _ (acc++[s']).length (strs (acc++[s']))):=Fx (by rw[Fz];exact I);clear I D a3 a8;go_wp2;go_roundw
  case rel=>exact ⟨acc++[s'],r',n-1,U,by omega,by simp;omega,bc,bv,bq⟩
  case measure=>rw[bc.out.left,HM.out];omega
theorem nO {l:List Tk}:∀ {ms:List Bs} {k:Nat} (h:k<ms.length),(∀ j (J:j<k),bC (ms[j]'(by omega)) l=false)→bC ms[k] l=true→ga l ms=some k
 | [],_,h,_,_=>absurd h (by simp)
 | m::ms,0,_,_,h=>by unfold ga;exact if_pos h
 | m::ms,k+1,h,D,I=>by
  unfold ga;have M:=D 0 (by omega);rw[if_neg (by simpa using M),nO (ms:=ms) (k:=k) (by simpa using h) (fun j J=>D (j+1) (by omega)) (by simpa using I)];rfl
theorem nP {l:List Tk}:∀ {ms:List Bs},(∀ j (h:j<ms.length),bC (ms[j]'h) l=false)→ga l ms=none
 | [],_=>rfl
 | m::ms,D=>by
  unfold ga;have I:=D 0 (by simp);rw[if_neg (by simpa using I),nP (ms:=ms) (fun j h=>D (j+1) (by simpa using h))];rfl
def kY (l:List Tk) (ms:List Bs):Int:=match ga l ms with
 | some k=>(k:Int)
 | none=> -1
theorem sD {l:List Tk} {b:Nat} (ms:List Bs) (A:Option Addr) (c:Nat) (w:World) (h:Ps w b l) (hR:Rd w [] 1 A ms.length (strs ms)) (O:ms.length≤4294967296) :
  Calls Tryz.prog 85 #[FN A ms.length c,.func (.func 76) #[FO (some ⟨b,0,none⟩)] #[]] w fun e w'=>e=FP (FR FS (kY l ms))∧w=w':=by
 have HR:=Fx hR;have HP:=Fx h;clear hR h;go_enter Tryz.func85,Tryz.ntmps85
 go_wp2;go_loop [8] (fun i=>∃ n:Nat,n≤ms.length∧i=FR FS n∧Hid (∀ j (I:j<n) (O:j<ms.length),bC ms[j] l=false)) (fun i=>ms.length-(intOf i).toNat)
 case atStart=>exact ⟨0,FF _,rfl,fun j I=>absurd I (by omega)⟩
 obtain ⟨n,hn,rfl,J⟩:=hrel;by_cases N:n<ms.length
 ·obtain ⟨g,o,rfl,_,hg,Z⟩:=HR.out.open' (by omega) (by omega)
  have d1:=Z n _ (cC ms n N);have HH:=kW ms[n] w HP.out;generalize U:ms[n]=x at *;have HX:=Fx U;have HH':=Fx HH;clear HH Z U
  cases M:bC x l with
  | true =>
   have D:kY l ms=(n:Int):=by
    unfold kY;rw[nO N (fun j I=>J j I (by omega)) (by rw[HX.out];exact M)]
   rw[M] at HH';have HQ:=Fx D;clear D M;go_wp2_with fail
   refine HH'.out.mono ?_;rintro e W2 ⟨rfl,rfl⟩;go_wp2;go_ret;exact ⟨by rw[HQ.out];rfl,rfl⟩
  | false =>
   have hno':Hid (∀ j (I:j<n+1) (O:j<ms.length),bC ms[j] l=false):=fun j I O=>by
    by_cases h:j<n
    ·exact J j h O
    obtain rfl:j=n:=by omega
    rw[HX.out];exact M
   rw[M] at HH';clear M;go_wp2_with fail
   refine HH'.out.mono ?_;rintro e W2 ⟨rfl,rfl⟩;go_wp2;go_round
   case rel=>exact ⟨n+1,by omega,by go_num,hno'⟩
   case measure=>simp[intOf];omega
 have D:Hid (kY l ms= -1):=by
  unfold kY;rw[nP (fun j I=>J j (by omega) I)];rfl
 go_wp2;go_ret;exact ⟨by rw[D.out];rfl,rfl⟩
theorem qd {l:List Tk}:∀ {ms:List Bs} {k:Nat},ga l ms=some k→∃ h:k<ms.length,bC ms[k] l=true
 | [],_,h=>by cases h
 | m::ms,k,h=>by
  unfold ga at h;split at h
  ·rename_i D
   injection h with h;subst h;exact ⟨by simp,D⟩
  obtain ⟨j,I,rfl⟩:=Option.map_eq_some_iff.1 h;obtain ⟨J,M⟩:=qd I;exact ⟨by simpa using J,by simpa using M⟩
theorem nh {ms:List Bs} {l r:List Tk} {s:Bs} (h:iu ms l= .ok (s,r)):∃ k,ga l ms=some k∧∃ O:k<ms.length,s=ms[k]∧bC ms[k] l=true∧r=l.tail:=by
 unfold iu at h
 cases D:ga l ms with
 | none=>rw[D] at h;cases h
 | some k =>
  rw[D] at h;obtain ⟨I,N⟩:=qd D;injection h with h;injection h with M J;refine ⟨k,rfl,I,?_,N,J.symm⟩;rw[←M,FJ,FA I];rfl
theorem nj {ms:List Bs} {l r:List Tk} {s:Bs} {b:Nat} (hm:iu ms l= .ok (s,r)) (A:Option Addr) (c:Nat) (w:World) (h:Ps w b l) (M:Rd w [b] 1 A ms.length (strs ms)) (hl:ms.length≤4294967296) :
  Calls Tryz.prog 120 #[FO (some ⟨b,0,none⟩),FN A ms.length c] w fun e w'=>e=FP (FM (bs s))∧Ps w' b r∧aa [b] w w':=by
 obtain ⟨k,h1,I,rfl,Z,rfl⟩:=nh hm;have N:=sD ms A c w h (M.move (by simp)) hl;have e:kY l ms=(k:Int):=by unfold kY;rw[h1]
 rw[e] at N;have HM:=Fx (aT (s:=ms[k]) (r:=l.tail) (by unfold aR;rw[if_pos Z]) w h);obtain ⟨g,o,rfl,D,hg,U⟩:=M.open' (by omega) (by omega);have d1:=U k _ (cC ms k I);have O:=Fx N;have av:(k:Int)<(ms.length:Int):=by omega
 have J:g≠b:=by simpa using D
 generalize ms[k]=x at *;clear hm h1 Z N e U M h D;have aA:∀ (fn:Fn) (first cap:Array Value) (w:World),(Instr.makeFunc fn first cap).run Tryz.prog w= .ok (.func fn first cap) w:=fun _ _ _ _=>rfl
 go_enter Tryz.func120,Tryz.ntmps120
 go_wp2_with fail
 refine O.out.mono ?_;rintro ev w1 ⟨rfl,rfl⟩;go_wp2_with fail
 refine HM.out.mono ?_;rintro ev w2 ⟨rfl,hp,I⟩;have d2:=I.cell_of d1 (by simpa using J);have ad:=FC _ _ d2;go_wp2;go_ret;exact ⟨rfl,hp,I⟩
theorem zL {ms:List Bs} {l:List Tk} {x:Int×Int} (h:iu ms l= .error x):ga l ms=none∧x=(3,(aS l).at_):=by
 unfold iu at h
 cases D:ga l ms with
 | none =>
  rw[D] at h;exact ⟨rfl,(Except.error.inj h).symm⟩
 | some k=>rw[D] at h;cases h
theorem re {ms:List Bs} {l:List Tk} {b:Nat} {x:Int×Int} (O:iu ms l= .error x) (A:Option Addr) (c:Nat) (w:World) (h:Ps w b l) (N:Rd w [b] 1 A ms.length (strs ms)) (hl:ms.length≤4294967296) :
  Calls Tryz.prog 120 #[FO (some ⟨b,0,none⟩),FN A ms.length c] w fun e w'=>bW x e w'∧aa [b] w w':=by
 obtain ⟨U,rfl⟩:=zL O;have D:=sD ms A c w h (N.move (by simp)) hl;have e:kY l ms= -1:=by unfold kY;rw[U]
 rw[e] at D;have HF:=Fx (bw 3 w h);have J:=Fx D;clear O U D e N h;have ad:∀ (M:Fn) (first cap:Array Value) (w:World),(Instr.makeFunc M first cap).run Tryz.prog w= .ok (.func M first cap) w:=fun _ _ _ _=>rfl
 go_enter Tryz.func120,Tryz.ntmps120
 go_wp2_with fail
 refine J.out.mono ?_;rintro ev w1 ⟨rfl,rfl⟩;go_wp2_with fail
 refine HF.out.mono ?_;rintro ev w2 ⟨⟨gi,rfl,Z⟩,I⟩;exact ⟨rfl,⟨gi,rfl,Z⟩,I.of_nil⟩
end
section
open Go.RowKit
structure jU (w:World):Prop where
 p10:Lib.TabIs Tryz.prog w "internal/strconv.uint64pow10" .u64 Lib.pow10Tab
 esyn:∃ t p,w.cell? ⟨6,0,none⟩=some (.iface t p)
 erng:∃ t p,w.cell? ⟨7,0,none⟩=some (.iface t p)
 marks:∀ j (h:j<aJ.length),w.cell? ⟨3,j,none⟩=some (FM (bs aJ[j]))
 words:∀ j (h:j<eJ.length),w.cell? ⟨4,j,none⟩=some (FM (bs eJ[j]))
 wty:dP w 4 232
theorem jU.quiet {w w':World} (h:jU w) (D:aa [] w w'):jU w' :=
  ⟨iV h.p10 D,by obtain ⟨t,p,J⟩:=h.esyn;exact ⟨t,p,D.cell_of J (by simp)⟩,by obtain ⟨t,p,J⟩:=h.erng;exact ⟨t,p,D.cell_of J (by simp)⟩,
   fun j I=>D.cell_of (h.marks j I) (by simp),fun j I=>D.cell_of (h.words j I) (by simp),h.wty.keep D (by simp)⟩
theorem nk (w:World) (o:Obj):(w.alloc o).heap.size=w.heap.size+1:=Array.size_push _
def FB (w:World) (h:Nat):Prop:=∃ w0,jU w0∧aa [] w0 w∧w0.heap.size≤h
theorem FB.env {w:World} {D:Nat} (h:FB w D):jU w:=by
 obtain ⟨w0,I,J,_⟩:=h;exact I.quiet J
theorem FB.go {w w':World} {D:Nat} {L:List Nat} (h:FB w D) (I:aa L w w') (J:∀ x∈L,D≤x):FB w' D:=by
 obtain ⟨w0,N,U,M⟩:=h;exact ⟨w0,N,U.trans' I (fun x O Z=>by have:=J x O;omega),M⟩
theorem FB.quiet {w w':World} {D:Nat} (h:FB w D) (I:aa [] w w'):FB w' D:=h.go I (fun x J=>by cases J)
theorem FB.one {w w':World} {D b:Nat} (h:FB w D) (M:D≤b) (I:aa [b] w w'):FB w' D:=h.go I (fun x J=>by simp at J;omega)
theorem jd {l:Bs} {n:Int} (h:Lib.atoiAll l= .ok n) (hd:∀ c∈l,iY c=true):0≤n∧n≤9223372036854775807:=by
 have I:=rf h;unfold ea at I;refine ⟨?_,I.2⟩;unfold Lib.atoiAll at h;split at h
 ·cases h
 rename_i c r;have J:=hd c (List.mem_cons_self ..);have D:¬c.toNat=45:=by
  unfold iY at J;simp only[Bool.and_eq_true,decide_eq_true_eq] at J;omega
 simp only at h;split at h
 ·cases h
 ·cases h
 split at h
 ·cases h
 split at h
 ·cases h
 injection h with h;first
  | (rw[if_neg D] at h;omega)
  | omega
end
section
open Go.RowKit Go.BigFrame
attribute [local go_sem] ag ab ae af
def rh (R:Except (Int×Int) (Vl×List Tk)) (b:Nat) (e:Ending) (w':World):Prop:=match R with
 | .ok (v,r)=>e=FP (fV v)∧Ps w' b r
 | .error x=>bW x e w'
theorem bY {w w':World} {b:Nat} {l:List Tk} (h:Ps w b l) (I:aa [b] w w') {g:Nat} {t:TypeId} {cs:Array Value} (D:ao w g t cs) (J:t≠111):ao w' g t cs :=
 D.keep I (fun M=>by
  have:g=b:=by simpa using M
  subst this;exact D.ty.ne h.ty J rfl)
theorem Ps.set {W:World} {b g i:Nat} {l:List Tk} {t:TypeId} {cs:Array Value} (h:Ps W b l) (J:ao W g t cs) (D:t≠111) (M:t≠114) (u:Value):Ps (W.setCell ⟨g,i,none⟩ u) b l :=
 h.far (L:=[g]) (aa.setCell (FK _ _) (.inl (by simp)) _) (fun x I=>⟨t,by rw[List.mem_singleton.1 I];exact J.ty,D,M⟩)
theorem Ps.setNew {W:World} {b g i:Nat} {l:List Tk} (h:Ps W b l) (O:b<g) (u:Value):Ps (W.setCell ⟨g,i,none⟩ u) b l:=by
 obtain ⟨J,o,c,h1,M,h3,Z,h5,h6,h7⟩:=h;have D:aa [g] W (W.setCell ⟨g,i,none⟩ u):=aa.setCell (FK _ _) (.inl (by simp)) _;have I:=M.2;have n1:b∉[g]:=by simp;omega
 have N:J∉[g]:=by simp;omega
 exact ⟨J,o,c,h1.keep D n1,⟨M.1.keep D N,I⟩,h3,Z,h5,h6,fun j u U=>D.cell_of (h7 j u U) N⟩
theorem nR {s:Bs} {n:Int} (J:Lib.atoiAll s= .ok n) (N:s.length≤1000000) (W:World) (I:jU W):Calls Tryz.prog 83 #[FM (bs s)] W fun e w'=>e=FP (.tuple #[FR FS n,.nilIface])∧aa [] W w':=by
 rcases nQ s (by omega) W I.esyn I.erng with ⟨v,h,_,M⟩|⟨D,_⟩
 ·rw[J] at h
  injection h with h;subst h;exact M
 exact absurd J (D n)
theorem lQ {s:Bs} (J:∀ n,Lib.atoiAll s≠ .ok n) (M:s.length≤1000000) (W:World) (D:jU W):Calls Tryz.prog 83 #[FM (bs s)] W fun e w'=>(∃ n t p,e=FP (.tuple #[FR FS n,.iface t p]))∧aa [] W w':=by
 rcases nQ s (by omega) W D.esyn D.erng with ⟨v,I,_,h⟩|⟨_,h⟩
 ·exact absurd I (J v)
 exact h
theorem xD {q:List Tk} {b lo:Nat} (w:World) (hE:FB w lo) (ds:lo≤b) (h:Ps w b q) (hs:bC [45] q=false) :
  Calls Tryz.prog 176 #[FO (some ⟨b,0,none⟩)] w fun e w'=>rh (eZ false q) b e w'∧aa [b] w w':=by
 obtain ⟨R,hR⟩:∃ R,eZ false q=R:=⟨_,rfl⟩
 rw[hR];have HV:=Fx hR;have HE:=Fx hE;obtain ⟨kd,cr⟩:∃ kd,(aS q).kind=kd:=⟨_,rfl⟩
 obtain ⟨tx,co⟩:∃ tx,(aS q).text=tx:=⟨_,rfl⟩
 obtain ⟨a5,cy⟩:∃ a5,(aS q).at_=a5:=⟨_,rfl⟩
 have av:=Fx cr;have bz:=Fx co;have c3:=Fx cy;clear hR hE;obtain ⟨g,o,c,c0,z0,lb,lg,-,hn,hc,cx,k0,k1,k2,hw⟩:=h.open';rw[cr] at k0;rw[co] at k1;rw[cy] at k2;clear hw;have ci:(0:Int)<(q.length:Int):=by omega
 have H:=Fx h;have d3:=Fx hs;skip
 clear h cr co cy hs;have HT:Hid (∀ W,aa [] w W→Calls Tryz.prog 119 #[FO (some ⟨b,0,none⟩),FM (bs [45])] W fun e w'=>e=FP (.bool false)∧Ps w' b q∧aa [b] W w'):=Fx (fun W x=>by
  have:=fa [45] W (H.out.keep x);rw[d3.out] at this;rw[if_neg (by simp)] at this;exact this)
 go_enter Tryz.func176,Tryz.ntmps176
 go_wp2_with fail
 refine (HT.out _ (((FK [] w).alloc _).alloc _)).mono ?_;rintro ev w1 ⟨rfl,cj,bX⟩;have c8:=(FL w 46 #[FR FS 0,FR FS 0,FM ⟨#[]⟩]).alloc (FQ #[FR FS kd,FM (bs tx),FR FS a5] 114);have cv:=FL (w.alloc (FQ #[FR FS 0,FR FS 0,FM ⟨#[]⟩] 46)) 114 #[FR FS kd,FM (bs tx),FR FS a5];rw[nk] at cv;have hP:=H.out.keep (((FK [] w).alloc (FQ #[FR FS 0,FR FS 0,FM ⟨#[]⟩] 46)).alloc (FQ #[FR FS kd,FM (bs tx),FR FS a5] 114));have cg:=Fx (bY hP bX c8 (by decide));have cq:=Fx (bY hP bX cv (by decide));have c9:=Fx ((((FK [] w).alloc (FQ #[FR FS 0,FR FS 0,FM ⟨#[]⟩] 46)).alloc (FQ #[FR FS kd,FM (bs tx),FR FS a5] 114)).of_nil.trans bX);have cm:=Fx cj;have a9:=Fx (Fy w.heap.size);have bq:Hid (w.heap.size≠b):=Fx (by omega);have cn:Hid (w.heap.size+1≠b∧w.heap.size+2≤w1.heap.size∧b<w.heap.size):=Fx ⟨by omega,by have:=bX.size;rw[nk,nk] at this;omega,by omega⟩;clear c8 cv hP cj bX c0 z0 lb lg hn hc cx k0 k1 k2 ci;obtain ⟨M,hM⟩:∃ M,w.heap.size=M:=⟨_,rfl⟩
 rw[hM] at cg cq bq cn ⊢;have a9:Hid (w.heap.size≤M):=Fx (by omega);clear hM;obtain ⟨g1,o1,c1,c0,z0,lb,lg,-,hn,hc,cx,k0,k1,k2,hw⟩:=cm.out.open';rw[av.out] at k0;rw[bz.out] at k1;rw[c3.out] at k2;obtain ⟨ch,b8,b4⟩:=hw;rw[bz.out] at ch b8 b4;rw[av.out] at b8 b4;have b5:=Fx b8;have bZ:=Fx b4;clear b8 b4;have ci:(0:Int)<(q.length:Int):=by omega
 obtain ⟨wt,d6⟩:∃ wt:World,wt=w1:=⟨_,rfl⟩
 subst d6;have b1:=cm;have bc:=c9;have ca:=cg;have b3:=cq;have c7:=Fx (HE.out.one ds bc.out);have c4:Hid (wt.heap.size≠b∧M≠wt.heap.size∧w.heap.size≤wt.heap.size):=Fx ⟨by have:=cn.out;omega,by have:=cn.out;omega,bc.out.size⟩;have t0:wt.cell? ⟨M+1,0,none⟩=some (FR FS kd):=b3.out.cell 0;have t1:wt.cell? ⟨M+1,1,none⟩=some (FM (bs tx)):=b3.out.cell 1;have t2:wt.cell? ⟨M+1,2,none⟩=some (FR FS a5):=b3.out.cell 2;have el:=b3.out.lt;clear cm c9 cg cq c0 z0 lb lg hn hc cx k0 k1 k2 ci;by_cases N:kd=3
 ·subst N
  have dq:Hid (2≤tx.length):=Fx (bZ.out rfl);clear b5 bZ;have bv:Hid (kr q ⟨2,0,jT tx⟩=R):=Fx (by rw[←HV.out];unfold eZ;rw[av.out,bz.out];rfl);have dz:2≤tx.length:=dq.out;have d1:∀ W,(Instr.slice 9 (FM (bs tx)) (some (FR FS 1)) (some (FR FS ((tx.length:Int)-1))) none).run Tryz.prog W= .ok (FM (bs (jT tx))) W:=fun W=>by
   have:=jG (P:=Tryz.prog) Tryz.underlying9 tx 1 (tx.length-1) (by omega) (by omega) W;rwa [show ((tx.length-1:Nat):Int)=(tx.length:Int)-1 by omega] at this
  have a8:Hid (wt.heap.size≠b∧M≠wt.heap.size∧w.heap.size≤wt.heap.size):=c4;have cu:=Fx a8.out.1;have bb:=Fx a8.out.2.1;have b7:=Fx a8.out.2.2;go_upto_region 17 with (fail)
  have O:=Fx (FL wt 46 #[FR FS 2,FR FS (0),FM (bs (jT tx))]);have a6:=Fx (b1.out.keep ((FK _ _).alloc (FQ #[FR FS 2,FR FS (0),FM (bs (jT tx))] 46)));have a3:=Fx (bc.out.alloc (FQ #[FR FS 2,FR FS (0),FM (bs (jT tx))] 46));have be:=Fx (ca.out.alloc (FQ #[FR FS 2,FR FS (0),FM (bs (jT tx))] 46));clear dz d1;generalize wt.heap.size=vb at *;obtain ⟨w4,bo⟩:∃ x,wt.alloc (FQ #[FR FS 2,FR FS (0),FM (bs (jT tx))] 46)=x:=⟨_,rfl⟩
  rw[bo] at O a6 a3 be ⊢;clear bo;have v0:w4.cell? ⟨vb,0,none⟩=some (FR FS 2):=O.out.cell 0;have v1:w4.cell? ⟨vb,1,none⟩=some (FR FS (0)):=O.out.cell 1;have v2:w4.cell? ⟨vb,2,none⟩=some (FM (bs (jT tx))):=O.out.cell 2;have lv:=O.out.lt;obtain ⟨rv,a1⟩:∃ rv,eS (⟨2,0,(jT tx)⟩:Vl)=rv:=⟨_,rfl⟩
  have bj:Hid (Calls Tryz.prog 28 #[.agg #[FR FS 2,FR FS (0),FM (bs (jT tx))]] w4 fun e w'=>e=FP (.bool rv)∧aa [] w4 w'):=Fx (by have:=cB (⟨2,0,(jT tx)⟩:Vl) w4;rw[a1] at this;exact this);have HF:=Fx a1;clear a1
  cases rv with
  | false =>
   have HX:Hid (R= .error (4,(aS q).at_)):=Fx (by rw[←bv.out];unfold kr;rw[HF.out];rfl);go_wp2_with fail
   refine bj.out.mono ?_;rintro ev w5 ⟨rfl,I⟩;have bk:=Fx (a6.out.keep I);have a2:=Fx (a3.out.trans I.of_nil);clear I;go_wp2_with fail
   refine (bw 4 w5 bk.out).mono ?_;rintro ev w6 ⟨⟨gi,rfl,hb⟩,a7⟩;exact ⟨rfl,by rw[HX.out];exact ⟨gi,rfl,hb⟩,a2.out.trans a7.of_nil⟩
  | true =>
   have HX:Hid (R= .ok ((⟨2,0,(jT tx)⟩:Vl),q.tail)):=Fx (by rw[←bv.out];unfold kr;rw[HF.out];rfl);have aA:(aS q).kind≠5:=by rw[av.out];decide
   have a0:=Fx aA;clear aA;go_wp2_with fail
   refine bj.out.mono ?_;rintro ev w5 ⟨rfl,I⟩;have U:=a6.out.keep I;have bk:=Fx U;have a2:=Fx (a3.out.trans I.of_nil);have D:=O.out.keep I (by simp);have J:=Fx (be.out.keep I (by simp));have hmore:=U.more a0.out;have b0:(1:Int)≤(q.length:Int):=by omega
   obtain ⟨g5,o5,c5,p0,pz,pb,pg,dt,pn,pc,dB,-,-,-,-⟩:=U.open';have d5:(1:Int)<(c5:Int):=by omega
   have ct:=Fx (fun n a d=> @Ps.step w5 b g5 o5 c5 q U p0 a0.out n a d);have cz:=Fx D;have x0:w5.cell? ⟨vb,0,none⟩=some (FR FS 2):=D.cell 0;have x1:w5.cell? ⟨vb,1,none⟩=some (FR FS (0)):=D.cell 1;have x2:w5.cell? ⟨vb,2,none⟩=some (FM (bs (jT tx))):=D.cell 2;have d8:=D.lt;have r0:w5.cell? ⟨M,0,none⟩=some (FR FS 0):=J.out.cell 0;have r1:w5.cell? ⟨M,1,none⟩=some (FR FS 0):=J.out.cell 1;have r2:w5.cell? ⟨M,2,none⟩=some (FM ⟨#[]⟩):=J.out.cell 2;have dv:=J.out.frozen 0;have d0:=J.out.frozen 1;have eb:=J.out.frozen 2;have lr:=J.out.lt;have dr:=cu.out;have d2:=bq.out;have d9:=bb.out;clear U I D v0 v1 v2 lv hmore;go_wp2;have br:=ct.out (q.length-1) ⟨g5,o5+3,none⟩ (c5-1) rfl rfl rfl;have ad:=J.out.far (p:=⟨b,0,none⟩) bq.out (FN (some ⟨g5,o5+3,none⟩) (q.length-1) (c5-1));have a4:=((ad.set 0 (FR FS 2)).set 1 (FR FS (0))).set 2 (FM (bs (jT tx)));have y0:=a4.cell 0;have y1:=a4.cell 1;have y2:=a4.cell 2;refine bodyPost_ret (v:= .agg #[FR FS 2,FR FS (0),FM (bs (jT tx))]) (by simp[results,Tryz.results176,go_sem,y0,y1,y2]) rfl ⟨?_,?_⟩
   ·rw[HX.out]
    exact ⟨rfl,((br.1.set ad (by decide) (by decide) _).set (ad.set 0 _) (by decide) (by decide) _).set ((ad.set 0 _).set 1 _) (by decide) (by decide) _⟩
   exact (((a2.out.trans br.2).setCell (.inr a9.out) _).setCell (.inr a9.out) _).setCell (.inr a9.out) _
 by_cases b6:kd=2
 ·subst b6
  have d7:Hid (∀ c∈tx,iY c=true):=Fx (b5.out rfl);clear b5 bZ N;rcases ha:Lib.atoiAll tx with n|_|_
  ·have bm:=jd ha d7.out
   have bv:Hid (kr q ⟨1,n,[]⟩=R):=Fx (by rw[←HV.out];unfold eZ;rw[av.out,bz.out,ha];simp);have cd:=Fx (fun W hW=>nR ha ch W hW);have cj:=bm.1;have en:=bm.2;have a8:Hid (wt.heap.size≠b∧M≠wt.heap.size∧w.heap.size≤wt.heap.size):=c4;clear ha bm;go_wp2_with fail
   refine (cd.out _ (c7.out.quiet ((FK _ _).alloc _)).env).mono ?_;rintro ev w3 ⟨rfl,N⟩;have Z:=(FL wt 46 #[FR FS 2,FR FS 0,FM ⟨#[]⟩]).keep N (by simp);generalize c6:wt.heap.size=vb at *;have HQ:=Fx c6;clear c6;have z0':=Z.frozen 0;have z1':=Z.frozen 1;have z2':=Z.frozen 2;have v0:w3.cell? ⟨vb,0,none⟩=some (FR FS 2):=Z.cell 0;have v1:w3.cell? ⟨vb,1,none⟩=some (FR FS 0):=Z.cell 1;have v2:w3.cell? ⟨vb,2,none⟩=some (FM ⟨#[]⟩):=Z.cell 2;have lv:=Z.lt;have ce:=Fx ((bc.out.alloc (FQ #[FR FS 2,FR FS 0,FM ⟨#[]⟩] 46)).trans N.of_nil);have bl:=Fx ((b1.out.keep ((FK _ _).alloc (FQ #[FR FS 2,FR FS 0,FM ⟨#[]⟩] 46))).keep N);have d4:=Fx (((ca.out.alloc (FQ #[FR FS 2,FR FS 0,FM ⟨#[]⟩] 46))).keep N (by simp));have ba:=Fx Z;have cu:=Fx a8.out.1;have bb:=Fx a8.out.2.1;have b7:=Fx a8.out.2.2;clear Z N;go_upto_region 17 with (fail)
   have b9:=(((ba.out.set 0 (FR FS 1)).set 1 (FR FS (n))).set 2 (FM ⟨#[]⟩)).congr (cs':= #[FR FS 1,FR FS (n),FM (bs [])]) rfl;have O:=Fx b9;have a6:=Fx (((bl.out.set ba.out (i:=0) (by decide) (by decide) (FR FS 1)).set (ba.out.set 0 _) (i:=1) (by decide) (by decide) (FR FS (n))).set ((ba.out.set 0 _).set 1 _) (i:=2) (by decide) (by decide) (FM ⟨#[]⟩));have a3:=Fx (((ce.out.setCell (p:=⟨vb,0,none⟩) (.inr b7.out) (FR FS 1)).setCell (p:=⟨vb,1,none⟩) (.inr b7.out) (FR FS (n))).setCell (p:=⟨vb,2,none⟩) (.inr b7.out) (FM ⟨#[]⟩));have be:=Fx (((d4.out.far (p:=⟨vb,0,none⟩) bb.out (FR FS 1)).far (p:=⟨vb,1,none⟩) bb.out (FR FS (n))).far (p:=⟨vb,2,none⟩) bb.out (FM ⟨#[]⟩));clear b9 z0' z1' z2' v0 v1 v2 lv;obtain ⟨w4,bo⟩:∃ x,((w3.setCell ⟨vb,0,none⟩ (FR FS 1)).setCell ⟨vb,1,none⟩ (FR FS (n))).setCell ⟨vb,2,none⟩ (FM ⟨#[]⟩)=x:=⟨_,rfl⟩
   rw[bo] at O a6 a3 be ⊢;clear bo;have v0:w4.cell? ⟨vb,0,none⟩=some (FR FS 1):=O.out.cell 0;have v1:w4.cell? ⟨vb,1,none⟩=some (FR FS (n)):=O.out.cell 1;have v2:w4.cell? ⟨vb,2,none⟩=some (FM (bs [])):=O.out.cell 2;have lv:=O.out.lt;obtain ⟨rv,a1⟩:∃ rv,eS (⟨1,n,[]⟩:Vl)=rv:=⟨_,rfl⟩
   have bj:Hid (Calls Tryz.prog 28 #[.agg #[FR FS 1,FR FS (n),FM (bs [])]] w4 fun e w'=>e=FP (.bool rv)∧aa [] w4 w'):=Fx (by have:=cB (⟨1,n,[]⟩:Vl) w4;rw[a1] at this;exact this);have HF:=Fx a1;clear a1
   cases rv with
   | false =>
    have HX:Hid (R= .error (4,(aS q).at_)):=Fx (by rw[←bv.out];unfold kr;rw[HF.out];rfl);go_wp2_with fail
    refine bj.out.mono ?_;rintro ev w5 ⟨rfl,I⟩;have bk:=Fx (a6.out.keep I);have a2:=Fx (a3.out.trans I.of_nil);clear I;go_wp2_with fail
    refine (bw 4 w5 bk.out).mono ?_;rintro ev w6 ⟨⟨gi,rfl,hb⟩,a7⟩;exact ⟨rfl,by rw[HX.out];exact ⟨gi,rfl,hb⟩,a2.out.trans a7.of_nil⟩
   | true =>
    have HX:Hid (R= .ok ((⟨1,n,[]⟩:Vl),q.tail)):=Fx (by rw[←bv.out];unfold kr;rw[HF.out];rfl);have aA:(aS q).kind≠5:=by rw[av.out];decide
    have a0:=Fx aA;clear aA;go_wp2_with fail
    refine bj.out.mono ?_;rintro ev w5 ⟨rfl,I⟩;have U:=a6.out.keep I;have bk:=Fx U;have a2:=Fx (a3.out.trans I.of_nil);have D:=O.out.keep I (by simp);have J:=Fx (be.out.keep I (by simp));have hmore:=U.more a0.out;have b0:(1:Int)≤(q.length:Int):=by omega
    obtain ⟨g5,o5,c5,p0,pz,pb,pg,dt,pn,pc,dB,-,-,-,-⟩:=U.open';have d5:(1:Int)<(c5:Int):=by omega
    have ct:=Fx (fun n a d=> @Ps.step w5 b g5 o5 c5 q U p0 a0.out n a d);have cz:=Fx D;have x0:w5.cell? ⟨vb,0,none⟩=some (FR FS 1):=D.cell 0;have x1:w5.cell? ⟨vb,1,none⟩=some (FR FS (n)):=D.cell 1;have x2:w5.cell? ⟨vb,2,none⟩=some (FM (bs [])):=D.cell 2;have d8:=D.lt;have r0:w5.cell? ⟨M,0,none⟩=some (FR FS 0):=J.out.cell 0;have r1:w5.cell? ⟨M,1,none⟩=some (FR FS 0):=J.out.cell 1;have r2:w5.cell? ⟨M,2,none⟩=some (FM ⟨#[]⟩):=J.out.cell 2;have dv:=J.out.frozen 0;have d0:=J.out.frozen 1;have eb:=J.out.frozen 2;have lr:=J.out.lt;have dr:=cu.out;have d2:=bq.out;have d9:=bb.out;clear U I D v0 v1 v2 lv hmore;go_wp2;have br:=ct.out (q.length-1) ⟨g5,o5+3,none⟩ (c5-1) rfl rfl rfl;have ad:=J.out.far (p:=⟨b,0,none⟩) bq.out (FN (some ⟨g5,o5+3,none⟩) (q.length-1) (c5-1));have a4:=((ad.set 0 (FR FS 1)).set 1 (FR FS (n))).set 2 (FM (bs []));have y0:=a4.cell 0;have y1:=a4.cell 1;have y2:=a4.cell 2;refine bodyPost_ret (v:= .agg #[FR FS 1,FR FS (n),FM (bs [])]) (by simp[results,Tryz.results176,go_sem,y0,y1,y2]) rfl ⟨?_,?_⟩
    ·rw[HX.out]
     exact ⟨rfl,((br.1.set ad (by decide) (by decide) _).set (ad.set 0 _) (by decide) (by decide) _).set ((ad.set 0 _).set 1 _) (by decide) (by decide) _⟩
    exact (((a2.out.trans br.2).setCell (.inr a9.out) _).setCell (.inr a9.out) _).setCell (.inr a9.out) _
  all_goals
   have HX:Hid (R= .error (4,(aS q).at_)):=Fx (by rw[←HV.out];unfold eZ;rw[av.out,bz.out,ha];rfl);have cd:=Fx (fun W hW=>lQ (s:=tx) (fun n h=>by rw[ha] at h;cases h) ch W hW);clear ha;go_wp2_with fail
   refine (cd.out _ (c7.out.quiet ((FK _ _).alloc _)).env).mono ?_;rintro ev w3 ⟨⟨n0,er,es,rfl⟩,N⟩;have bl:=Fx ((b1.out.keep ((FK _ _).alloc (FQ #[FR FS 2,FR FS 0,FM ⟨#[]⟩] 46))).keep N);have ce:=Fx ((bc.out.alloc (FQ #[FR FS 2,FR FS 0,FM ⟨#[]⟩] 46)).trans N.of_nil);clear N;go_wp2_with fail
   refine (bw 4 w3 bl.out).mono ?_;rintro ev w6 ⟨⟨gi,rfl,hb⟩,a7⟩;exact ⟨rfl,by rw[HX.out];exact ⟨gi,rfl,hb⟩,ce.out.trans a7.of_nil⟩
 have e3:(kd==3)=false:=by rw[beq_eq_false_iff_ne];exact N
 have e2:(kd==2)=false:=by rw[beq_eq_false_iff_ne];exact b6
 have HX:Hid (R= .error (3,(aS q).at_)):=Fx (by rw[←HV.out];unfold eZ;rw[av.out,if_neg (by simp),if_neg N,if_neg b6];rfl);clear N b6 b5 bZ;have bl:=Fx (b1.out.keep ((FK _ _).alloc (FQ #[FR FS 2,FR FS 0,FM ⟨#[]⟩] 46)));go_wp2_with fail
 refine (bw 3 _ bl.out).mono ?_;rintro ev w6 ⟨⟨gi,rfl,hb⟩,a7⟩;exact ⟨rfl,by rw[HX.out];exact ⟨gi,rfl,hb⟩,(bc.out.alloc _).trans a7.of_nil⟩
theorem xE {l q:List Tk} {b lo:Nat} (w:World) (hE:FB w lo) (dq:lo≤b) (h:Ps w b l) (hs:bC [45] l=true) (hq:l.tail=q) :
  Calls Tryz.prog 176 #[FO (some ⟨b,0,none⟩)] w fun e w'=>rh (eZ true q) b e w'∧aa [b] w w':=by
 obtain ⟨R,hR⟩:∃ R,eZ true q=R:=⟨_,rfl⟩
 rw[hR];have HV:=Fx hR;have HE:=Fx hE;obtain ⟨kd,c3⟩:∃ kd,(aS q).kind=kd:=⟨_,rfl⟩
 obtain ⟨tx,cz⟩:∃ tx,(aS q).text=tx:=⟨_,rfl⟩
 obtain ⟨D,c8⟩:∃ D,(aS q).at_=D:=⟨_,rfl⟩
 have av:=Fx c3;have be:=Fx cz;have cq:=Fx c8;clear hR hE;obtain ⟨g,o,c,c0,z0,lb,lg,-,hn,hc,cg,k0,k1,k2,hw⟩:=h.open';generalize (aS l).kind=kd0 at k0;generalize (aS l).text=tx0 at k1;generalize (aS l).at_=at0 at k2;clear hw;have b3:(0:Int)<(l.length:Int):=by omega
 have H:=Fx h;have dt:=Fx hs;have ds:=Fx hq;clear h c3 cz c8 hs hq;have HT:Hid (∀ W,aa [] w W→Calls Tryz.prog 119 #[FO (some ⟨b,0,none⟩),FM (bs [45])] W fun e w'=>e=FP (.bool true)∧Ps w' b q∧aa [b] W w'):=Fx (fun W x=>by
  have:=fa [45] W (H.out.keep x);rw[dt.out] at this;rw[if_pos rfl,ds.out] at this;exact this)
 go_enter Tryz.func176,Tryz.ntmps176
 go_wp2_with fail
 refine (HT.out _ (((FK [] w).alloc _).alloc _)).mono ?_;rintro ev w1 ⟨rfl,b6,a7⟩;have c6:=(FL w 46 #[FR FS 0,FR FS 0,FM ⟨#[]⟩]).alloc (FQ #[FR FS kd0,FM (bs tx0),FR FS at0] 114);have ce:=FL (w.alloc (FQ #[FR FS 0,FR FS 0,FM ⟨#[]⟩] 46)) 114 #[FR FS kd0,FM (bs tx0),FR FS at0];rw[nk] at ce;have hP:=H.out.keep (((FK [] w).alloc (FQ #[FR FS 0,FR FS 0,FM ⟨#[]⟩] 46)).alloc (FQ #[FR FS kd0,FM (bs tx0),FR FS at0] 114));have cn:=Fx (bY hP a7 c6 (by decide));have O:=Fx (bY hP a7 ce (by decide));have d1:=Fx ((((FK [] w).alloc (FQ #[FR FS 0,FR FS 0,FM ⟨#[]⟩] 46)).alloc (FQ #[FR FS kd0,FM (bs tx0),FR FS at0] 114)).of_nil.trans a7);have cx:=Fx b6;have a8:=Fx (Fy w.heap.size);have b9:Hid (w.heap.size≠b):=Fx (by omega);have bj:Hid (w.heap.size+1≠b∧w.heap.size+2≤w1.heap.size∧b<w.heap.size):=Fx ⟨by omega,by have:=a7.size;rw[nk,nk] at this;omega,by omega⟩;clear c6 ce hP b6 a7 c0 z0 lb lg hn hc cg k0 k1 k2 b3;obtain ⟨M,hM⟩:∃ M,w.heap.size=M:=⟨_,rfl⟩
 rw[hM] at cn O b9 bj ⊢;have a8:Hid (w.heap.size≤M):=Fx (by omega);clear hM;obtain ⟨g1,o1,c1,c0,z0,lb,lg,-,hn,hc,cg,k0,k1,k2,hw⟩:=cx.out.open';rw[av.out] at k0;rw[be.out] at k1;rw[cq.out] at k2;obtain ⟨b1,bk,bc⟩:=hw;rw[be.out] at b1 bk bc;rw[av.out] at bk bc;have b8:=Fx bk;have co:=Fx bc;clear bk bc;have b3:(0:Int)<(q.length:Int):=by omega
 have t0:w1.cell? ⟨M+1,0,none⟩=some (FR FS kd0):=O.out.cell 0;have t1:w1.cell? ⟨M+1,1,none⟩=some (FM (bs tx0)):=O.out.cell 1;have t2:w1.cell? ⟨M+1,2,none⟩=some (FR FS at0):=O.out.cell 2;have f0:=O.out.frozen 0;have f1:=O.out.frozen 1;have f2:=O.out.frozen 2;have ci:=O.out.lt;go_upto_region 5 with (fail)
 have a2:=Fx ((((O.out.set 0 (FR FS kd)).set 1 (FM (bs tx))).set 2 (FR FS D)).congr (cs':= #[FR FS kd,FM (bs tx),FR FS D]) rfl);have a1:Hid (b<M+1∧M≠M+1):=Fx (by have:=bj.out;omega);have bb:=Fx (((cx.out.setNew (i:=0) a1.out.1 (FR FS kd)).setNew (i:=1) a1.out.1 (FM (bs tx))).setNew (i:=2) a1.out.1 (FR FS D));have a6:Hid (w.heap.size≤M+1):=Fx (Nat.le_succ_of_le a8.out);have a0:=Fx (((d1.out.setCell (p:=⟨M+1,0,none⟩) (.inr a6.out) (FR FS kd)).setCell (p:=⟨M+1,1,none⟩) (.inr a6.out) (FM (bs tx))).setCell (p:=⟨M+1,2,none⟩) (.inr a6.out) (FR FS D));have bo:=Fx (((cn.out.far (p:=⟨M+1,0,none⟩) a1.out.2 (FR FS kd)).far (p:=⟨M+1,1,none⟩) a1.out.2 (FM (bs tx))).far (p:=⟨M+1,2,none⟩) a1.out.2 (FR FS D));clear t0 t1 t2 f0 f1 f2 ci c0 z0 lb lg hn hc cg k0 k1 k2 b3;have bZ:Hid (w1.heap.size=(((w1.setCell ⟨M+1,0,none⟩ (FR FS kd)).setCell ⟨M+1,1,none⟩ (FM (bs tx))).setCell ⟨M+1,2,none⟩ (FR FS D)).heap.size):=Fx (by simp[World.setCell]);obtain ⟨wt,c7⟩:∃ x,((w1.setCell ⟨M+1,0,none⟩ (FR FS kd)).setCell ⟨M+1,1,none⟩ (FM (bs tx))).setCell ⟨M+1,2,none⟩ (FR FS D)=x:=⟨_,rfl⟩
 rw[c7] at a2 bb a0 bo bZ ⊢;clear c7;have c4:=Fx (HE.out.one dq a0.out);have dr:Hid (wt.heap.size≠b∧M≠wt.heap.size∧w.heap.size≤wt.heap.size):=Fx ⟨by have:=bj.out;have:=bZ.out;omega,by have:=bj.out;have:=bZ.out;omega,a0.out.size⟩;have t0:wt.cell? ⟨M+1,0,none⟩=some (FR FS kd):=a2.out.cell 0;have t1:wt.cell? ⟨M+1,1,none⟩=some (FM (bs tx)):=a2.out.cell 1;have t2:wt.cell? ⟨M+1,2,none⟩=some (FR FS D):=a2.out.cell 2;have ci:=a2.out.lt;by_cases ca:kd=2
 ·subst ca
  have d0:Hid (∀ c∈tx,iY c=true):=Fx (b8.out rfl);clear b8 co;rcases ha:Lib.atoiAll tx with n|_|_
  ·have a4:=jd ha d0.out
   have cy:Hid (kr q ⟨1,-n,[]⟩=R):=Fx (by rw[←HV.out];unfold eZ;rw[av.out,be.out,ha];simp);have br:=Fx (fun W hW=>nR ha b1 W hW);have b6:=a4.1;have d4:=a4.2;have ch:Hid (wt.heap.size≠b∧M≠wt.heap.size∧w.heap.size≤wt.heap.size):=dr;clear ha a4;go_wp2_with fail
   refine (br.out _ (c4.out.quiet ((FK _ _).alloc _)).env).mono ?_;rintro ev w3 ⟨rfl,N⟩;have J:=(FL wt 46 #[FR FS 2,FR FS 0,FM ⟨#[]⟩]).keep N (by simp);generalize cu:wt.heap.size=vb at *;have HQ:=Fx cu;clear cu;have z0':=J.frozen 0;have z1':=J.frozen 1;have z2':=J.frozen 2;have v0:w3.cell? ⟨vb,0,none⟩=some (FR FS 2):=J.cell 0;have v1:w3.cell? ⟨vb,1,none⟩=some (FR FS 0):=J.cell 1;have v2:w3.cell? ⟨vb,2,none⟩=some (FM ⟨#[]⟩):=J.cell 2;have lv:=J.lt;have bX:=Fx ((a0.out.alloc (FQ #[FR FS 2,FR FS 0,FM ⟨#[]⟩] 46)).trans N.of_nil);have b7:=Fx ((bb.out.keep ((FK _ _).alloc (FQ #[FR FS 2,FR FS 0,FM ⟨#[]⟩] 46))).keep N);have dz:=Fx (((bo.out.alloc (FQ #[FR FS 2,FR FS 0,FM ⟨#[]⟩] 46))).keep N (by simp));have ad:=Fx J;have dB:=Fx ch.out.1;have a9:=Fx ch.out.2.1;have cd:=Fx ch.out.2.2;clear J N;go_upto_region 17 with (fail)
   have bm:=(((ad.out.set 0 (FR FS 1)).set 1 (FR FS (-n))).set 2 (FM ⟨#[]⟩)).congr (cs':= #[FR FS 1,FR FS (-n),FM (bs [])]) rfl;have aA:=Fx bm;have b5:=Fx (((b7.out.set ad.out (i:=0) (by decide) (by decide) (FR FS 1)).set (ad.out.set 0 _) (i:=1) (by decide) (by decide) (FR FS (-n))).set ((ad.out.set 0 _).set 1 _) (i:=2) (by decide) (by decide) (FM ⟨#[]⟩));have b0:=Fx (((bX.out.setCell (p:=⟨vb,0,none⟩) (.inr cd.out) (FR FS 1)).setCell (p:=⟨vb,1,none⟩) (.inr cd.out) (FR FS (-n))).setCell (p:=⟨vb,2,none⟩) (.inr cd.out) (FM ⟨#[]⟩));have cj:=Fx (((dz.out.far (p:=⟨vb,0,none⟩) a9.out (FR FS 1)).far (p:=⟨vb,1,none⟩) a9.out (FR FS (-n))).far (p:=⟨vb,2,none⟩) a9.out (FM ⟨#[]⟩));clear bm z0' z1' z2' v0 v1 v2 lv;obtain ⟨w4,ct⟩:∃ x,((w3.setCell ⟨vb,0,none⟩ (FR FS 1)).setCell ⟨vb,1,none⟩ (FR FS (-n))).setCell ⟨vb,2,none⟩ (FM ⟨#[]⟩)=x:=⟨_,rfl⟩
   rw[ct] at aA b5 b0 cj ⊢;clear ct;have v0:w4.cell? ⟨vb,0,none⟩=some (FR FS 1):=aA.out.cell 0;have v1:w4.cell? ⟨vb,1,none⟩=some (FR FS (-n)):=aA.out.cell 1;have v2:w4.cell? ⟨vb,2,none⟩=some (FM (bs [])):=aA.out.cell 2;have lv:=aA.out.lt;obtain ⟨rv,bv⟩:∃ rv,eS (⟨1,-n,[]⟩:Vl)=rv:=⟨_,rfl⟩
   have cm:Hid (Calls Tryz.prog 28 #[.agg #[FR FS 1,FR FS (-n),FM (bs [])]] w4 fun e w'=>e=FP (.bool rv)∧aa [] w4 w'):=Fx (by have:=cB (⟨1,-n,[]⟩:Vl) w4;rw[bv] at this;exact this);have HF:=Fx bv;clear bv
   cases rv with
   | false =>
    have HX:Hid (R= .error (4,(aS q).at_)):=Fx (by rw[←cy.out];unfold kr;rw[HF.out];rfl);go_wp2_with fail
    refine cm.out.mono ?_;rintro ev w5 ⟨rfl,U⟩;have cr:=Fx (b5.out.keep U);have bz:=Fx (b0.out.trans U.of_nil);clear U;go_wp2_with fail
    refine (bw 4 w5 cr.out).mono ?_;rintro ev w6 ⟨⟨gi,rfl,hb⟩,a5⟩;exact ⟨rfl,by rw[HX.out];exact ⟨gi,rfl,hb⟩,bz.out.trans a5.of_nil⟩
   | true =>
    have HX:Hid (R= .ok ((⟨1,-n,[]⟩:Vl),q.tail)):=Fx (by rw[←cy.out];unfold kr;rw[HF.out];rfl);have bl:(aS q).kind≠5:=by rw[av.out];decide
    have bq:=Fx bl;clear bl;go_wp2_with fail
    refine cm.out.mono ?_;rintro ev w5 ⟨rfl,U⟩;have a3:=b5.out.keep U;have cr:=Fx a3;have bz:=Fx (b0.out.trans U.of_nil);have I:=aA.out.keep U (by simp);have Z:=Fx (cj.out.keep U (by simp));have hmore:=a3.more bq.out;have c9:(1:Int)≤(q.length:Int):=by omega
    obtain ⟨g5,o5,c5,p0,pz,pb,pg,d5,pn,pc,d7,-,-,-,-⟩:=a3.open';have el:(1:Int)<(c5:Int):=by omega
    have dv:=Fx (fun n a d=> @Ps.step w5 b g5 o5 c5 q a3 p0 bq.out n a d);have d2:=Fx I;have x0:w5.cell? ⟨vb,0,none⟩=some (FR FS 1):=I.cell 0;have x1:w5.cell? ⟨vb,1,none⟩=some (FR FS (-n)):=I.cell 1;have x2:w5.cell? ⟨vb,2,none⟩=some (FM (bs [])):=I.cell 2;have er:=I.lt;have r0:w5.cell? ⟨M,0,none⟩=some (FR FS 0):=Z.out.cell 0;have r1:w5.cell? ⟨M,1,none⟩=some (FR FS 0):=Z.out.cell 1;have r2:w5.cell? ⟨M,2,none⟩=some (FM ⟨#[]⟩):=Z.out.cell 2;have d6:=Z.out.frozen 0;have d8:=Z.out.frozen 1;have et:=Z.out.frozen 2;have lr:=Z.out.lt;have d3:=dB.out;have d9:=b9.out;have es:=a9.out;clear a3 U I v0 v1 v2 lv hmore;go_wp2;have cv:=dv.out (q.length-1) ⟨g5,o5+3,none⟩ (c5-1) rfl rfl rfl;have ba:=Z.out.far (p:=⟨b,0,none⟩) b9.out (FN (some ⟨g5,o5+3,none⟩) (q.length-1) (c5-1));have b4:=((ba.set 0 (FR FS 1)).set 1 (FR FS (-n))).set 2 (FM (bs []));have y0:=b4.cell 0;have y1:=b4.cell 1;have y2:=b4.cell 2;refine bodyPost_ret (v:= .agg #[FR FS 1,FR FS (-n),FM (bs [])]) (by simp[results,Tryz.results176,go_sem,y0,y1,y2]) rfl ⟨?_,?_⟩
    ·rw[HX.out]
     exact ⟨rfl,((cv.1.set ba (by decide) (by decide) _).set (ba.set 0 _) (by decide) (by decide) _).set ((ba.set 0 _).set 1 _) (by decide) (by decide) _⟩
    exact (((bz.out.trans cv.2).setCell (.inr a8.out) _).setCell (.inr a8.out) _).setCell (.inr a8.out) _
  all_goals
   have HX:Hid (R= .error (4,(aS q).at_)):=Fx (by rw[←HV.out];unfold eZ;rw[av.out,be.out,ha];rfl);have br:=Fx (fun W hW=>lQ (s:=tx) (fun n h=>by rw[ha] at h;cases h) b1 W hW);clear ha;go_wp2_with fail
   refine (br.out _ (c4.out.quiet ((FK _ _).alloc _)).env).mono ?_;rintro ev w3 ⟨⟨n0,eb,en,rfl⟩,N⟩;have b7:=Fx ((bb.out.keep ((FK _ _).alloc (FQ #[FR FS 2,FR FS 0,FM ⟨#[]⟩] 46))).keep N);have bX:=Fx ((a0.out.alloc (FQ #[FR FS 2,FR FS 0,FM ⟨#[]⟩] 46)).trans N.of_nil);clear N;go_wp2_with fail
   refine (bw 4 w3 b7.out).mono ?_;rintro ev w6 ⟨⟨gi,rfl,hb⟩,a5⟩;exact ⟨rfl,by rw[HX.out];exact ⟨gi,rfl,hb⟩,bX.out.trans a5.of_nil⟩
 have e2:(kd != 2)=true:=by rw[bne_iff_ne];exact ca
 have HX:Hid (R= .error (3,(aS q).at_)):=Fx (by rw[←HV.out];unfold eZ;rw[av.out,e2];rfl);clear ca b8 co;go_wp2_with fail
 refine (bw 3 _ bb.out).mono ?_;rintro ev w6 ⟨⟨gi,rfl,hb⟩,a5⟩;exact ⟨rfl,by rw[HX.out];exact ⟨gi,rfl,hb⟩,a0.out.trans a5.of_nil⟩
theorem uE {l:List Tk} {b J:Nat} (w:World) (M:FB w J) (D:J≤b) (h:Ps w b l) :
  Calls Tryz.prog 176 #[FO (some ⟨b,0,none⟩)] w fun e w'=>rh (iq l) b e w'∧aa [b] w w':=by
 unfold iq
 cases I:bC [45] l with
 | true=>exact xE w M D h I rfl
 | false=>exact xD w M D h I
def EC (a:Ar):Value:= .agg #[FM (bs a.col),FR FS a.val.kind,FR FS a.val.num,FM (bs a.val.word)]
def Do (R:Except (Int×Int) (Ar×List Tk)) (b:Nat) (e:Ending) (w':World):Prop:=match R with
 | .ok (a,r)=>e=FP (EC a)∧Ps w' b r
 | .error x=>bW x e w'
theorem nS {l:List Tk} {b lo:Nat} (w:World) (hE:FB w lo) (a4:lo≤b) (h:Ps w b l) :
  Calls Tryz.prog 155 #[FO (some ⟨b,0,none⟩)] w fun e w'=>Do (lN l) b e w'∧aa [b] w w':=by
 obtain ⟨R,U⟩:∃ R,lN l=R:=⟨_,rfl⟩
 rw[U];have HN:Hid (∀ W,aa [] w W→∀ x,aQ l= .error x→Calls Tryz.prog 80 #[FO (some ⟨b,0,none⟩)] W fun e w'=>bW x e w'∧aa [b] W w'):=Fx (fun W q x hx=>bR hx W (h.keep q));have HY:Hid (∀ W,aa [] w W→∀ s r,aQ l= .ok (s,r)→Calls Tryz.prog 80 #[FO (some ⟨b,0,none⟩)] W fun e w'=>e=FP (FM (bs s))∧Ps w' b r∧aa [b] W w'):=Fx (fun W q s r hx=>bi hx W (h.keep q));have HV:Hid (∀ W,aa [] w W→Calls Tryz.prog 176 #[FO (some ⟨b,0,none⟩)] W fun e w'=>rh (iq l) b e w'∧aa [b] W w'):=Fx (fun W q=>uE W (hE.quiet q) a4 (h.keep q));have H:=Fx h;obtain ⟨g,o,c,c0,z0,lb,lg,-,hn,hc,a3,k0,k1,k2,-⟩:=h.open';have a1:(0:Int)<(l.length:Int):=by omega
 have HM:=Fx (Fy w.heap.size);have a6:Hid (w.heap.size≠b):=Fx (by omega);have HB:=Fx (FL w 48 #[FM ⟨#[]⟩,FR FS 0,FR FS 0,FM ⟨#[]⟩]);have HK:=Fx ((FK [] w).alloc (FQ #[FM ⟨#[]⟩,FR FS 0,FR FS 0,FM ⟨#[]⟩] 48));have HP:=Fx (h.keep HK.out);clear h hE;unfold lN at U;by_cases h1:(aS l).kind=1
 ·rw[if_pos h1] at U
  rw[h1] at k0;rcases hN:aQ l with x|⟨s,r⟩
  ·rw[hN] at U
   have HX:Hid (R= .error x):=Fx U.symm;have HC:=Fx (HN.out _ HK.out x hN);clear U h1 hN;go_enter Tryz.func155,Tryz.ntmps155
   go_wp2_with fail
   refine HC.out.mono ?_;rintro ev Z ⟨⟨gi,rfl,hb⟩,I⟩;exact ⟨rfl,by rw[HX.out];exact ⟨gi,rfl,hb⟩,HK.out.of_nil.trans I⟩
  rw[hN] at U;have HX:Hid (R= .ok (⟨s,zV⟩,r)):=Fx U.symm;have HC:=Fx (HY.out _ HK.out s r hN);clear U h1 hN;go_enter Tryz.func155,Tryz.ntmps155
  go_wp2_with fail
  refine HC.out.mono ?_;rintro ev Z ⟨rfl,ad,I⟩;have D:=bY HP.out I HB.out (by decide);obtain ⟨M,hM⟩:∃ M,w.heap.size=M:=⟨_,rfl⟩
  rw[hM] at D ⊢;have N:Hid (w.heap.size≤M):=Fx (by omega);have J:=Fx D;have a0:=Fx ad;have av:=Fx (HK.out.of_nil.trans I);have f0:=D.frozen 0;have f1:=D.frozen 1;have f2:=D.frozen 2;have f3:=D.frozen 3;have r0:Z.cell? ⟨M,0,none⟩=some (FM ⟨#[]⟩):=D.cell 0;have r1:Z.cell? ⟨M,1,none⟩=some (FR FS 0):=D.cell 1;have r2:Z.cell? ⟨M,2,none⟩=some (FR FS 0):=D.cell 2;have r3:Z.cell? ⟨M,3,none⟩=some (FM ⟨#[]⟩):=D.cell 3;have lr:=D.lt;clear D ad I hM c0 z0 lb lg hn hc a3 k0 k1 k2 a1;go_wp2;have O:=(((J.out.set 0 (FM (bs s))).set 1 (FR FS 0)).set 2 (FR FS 0)).set 3 (FM ⟨#[]⟩);have y0:=O.cell 0;have y1:=O.cell 1;have y2:=O.cell 2;have y3:=O.cell 3;refine bodyPost_ret (v:= .agg #[FM (bs s),FR FS 0,FR FS 0,FM ⟨#[]⟩]) (by simp[results,Tryz.results155,go_sem,y0,y1,y2,y3]) rfl ⟨?_,?_⟩
  ·rw[HX.out]
   exact ⟨rfl,(((a0.out.set J.out (by decide) (by decide) _).set (J.out.set 0 _) (by decide) (by decide) _).set ((J.out.set 0 _).set 1 _) (by decide) (by decide) _).set (((J.out.set 0 _).set 1 _).set 2 _) (by decide) (by decide) _⟩
  exact (((av.out.setCell (.inr N.out) _).setCell (.inr N.out) _).setCell (.inr N.out) _).setCell (.inr N.out) _
 rw[if_neg h1] at U;have a7:((aS l).kind==1)=false:=by rw[beq_eq_false_iff_ne];exact h1
 have HC:=HV.out _ HK.out;rcases hN:iq l with x|⟨v,r⟩
 ·rw[hN] at U HC
  have HX:Hid (R= .error x):=Fx U.symm;have aA:=Fx HC;clear U h1 hN HC;go_enter Tryz.func155,Tryz.ntmps155
  go_wp2_with fail
  refine aA.out.mono ?_;rintro ev Z ⟨⟨gi,rfl,hb⟩,I⟩;exact ⟨rfl,by rw[HX.out];exact ⟨gi,rfl,hb⟩,HK.out.of_nil.trans I⟩
 rw[hN] at U HC;obtain ⟨kd,nm,wd⟩:=v;have HX:Hid (R= .ok (⟨[],⟨kd,nm,wd⟩⟩,r)):=Fx U.symm;have aA:=Fx HC;clear U h1 hN HC;go_enter Tryz.func155,Tryz.ntmps155
 go_wp2_with fail
 refine aA.out.mono ?_;rintro ev Z ⟨⟨a2,ad⟩,I⟩;have a5:ev=FP (.agg #[FR FS kd,FR FS nm,FM (bs wd)]):=a2;subst a5;clear a2;have D:=bY HP.out I HB.out (by decide);obtain ⟨M,hM⟩:∃ M,w.heap.size=M:=⟨_,rfl⟩
 rw[hM] at D ⊢;have N:Hid (w.heap.size≤M):=Fx (by omega);have J:=Fx D;have a0:=Fx ad;have av:=Fx (HK.out.of_nil.trans I);have f0:=D.frozen 0;have f1:=D.frozen 1;have f2:=D.frozen 2;have f3:=D.frozen 3;have r0:Z.cell? ⟨M,0,none⟩=some (FM ⟨#[]⟩):=D.cell 0;have r1:Z.cell? ⟨M,1,none⟩=some (FR FS 0):=D.cell 1;have r2:Z.cell? ⟨M,2,none⟩=some (FR FS 0):=D.cell 2;have r3:Z.cell? ⟨M,3,none⟩=some (FM ⟨#[]⟩):=D.cell 3;have lr:=D.lt;clear D ad I hM c0 z0 lb lg hn hc a3 k0 k1 k2 a1;go_wp2;have O:=(((J.out.set 0 (FM ⟨#[]⟩)).set 1 (FR FS kd)).set 2 (FR FS nm)).set 3 (FM (bs wd));have y0:=O.cell 0;have y1:=O.cell 1;have y2:=O.cell 2;have y3:=O.cell 3;refine bodyPost_ret (v:= .agg #[FM ⟨#[]⟩,FR FS kd,FR FS nm,FM (bs wd)]) (by simp[results,Tryz.results155,go_sem,y0,y1,y2,y3]) rfl ⟨?_,?_⟩
 ·rw[HX.out]
  exact ⟨rfl,(((a0.out.set J.out (by decide) (by decide) _).set (J.out.set 0 _) (by decide) (by decide) _).set ((J.out.set 0 _).set 1 _) (by decide) (by decide) _).set (((J.out.set 0 _).set 1 _).set 2 _) (by decide) (by decide) _⟩
 exact (((av.out.setCell (.inr N.out) _).setCell (.inr N.out) _).setCell (.inr N.out) _).setCell (.inr N.out) _
theorem E9:(Tryz.prog.info? 64).map (fun i=>(i.zero,i.size,i.bytes))=some (some (.agg #[FM ⟨#[]⟩,FR FS 0]),2,24):=by kernel_rfl
def C8 (R:Except (Int×Int) (In×List Tk)) (b base:Nat) (e:Ending) (w':World):Prop:=match R with
 | .ok (x,r)=>∃ v,e=FP (.agg #[FR FS x.at_,FM (bs x.name),v])∧w'.ownsRow base 64 2 v x.cols.length (ai x.cols)∧Ps w' b r
 | .error x=>bW x e w'
theorem aw {α β:Type} (x:Int×Int) (f:α→Except (Int×Int) β):((Except.error x:Except (Int×Int) α) >>= f)= .error x:=rfl
theorem aq {α β:Type} (a:α) (f:α→Except (Int×Int) β):((Except.ok a:Except (Int×Int) α) >>= f)=f a:=rfl
theorem ri {W:World} {g b:Nat} (l:List Bs) (h:ao W g 9 (strs l).toArray) (D:g≠b):Rd W [b] 1 (some ⟨g,0,none⟩) l.length (strs l) :=
 ⟨by rw[ja,Nat.mul_one],fun _=>⟨_,rfl,by simpa using D,h.lt,fun j u I=>by rw[cJ,Nat.zero_add,h.cell];simpa using I⟩⟩
theorem fd (n:Nat) (l:List Tk) (acc:List Cl):dH (n+1) l acc=(aQ l >>= fun p=>iu [[105,110,116],[116,101,120,116]] p.2 >>= fun k=>if bC [44] k.2 then dH n k.2.tail (acc++[⟨p.1,if k.1=[116,101,120,116] then 2 else 1⟩]) else .ok (acc++[⟨p.1,if k.1=[116,101,120,116] then 2 else 1⟩],k.2)):=by
 conv=>lhs;unfold dH zI
 rcases aQ l with x|⟨s,r⟩
 ·rfl
 rw[aq,aq];simp only;rcases iu [[105,110,116],[116,101,120,116]] r with x|⟨k,h⟩<;>rfl
theorem mz (acc:List Cl) (s:Bs) (k:Int):ai (acc++[⟨s,k⟩])=ai acc++[FM (bs s),FR FS k]:=by simp[ai,fi]
theorem az {l r:List Tk} {s:Bs} (h:aQ l= .ok (s,r)):r.length=l.length-1:=by
 obtain ⟨_,_,_,e⟩:=i8 h;rw[e,List.length_tail]
theorem aF {l r:List Tk} {s:Bs} (h:aR s l= .ok r):r.length=l.length-1:=by
 obtain ⟨_,e⟩:=nM h;rw[e,List.length_tail]
theorem fe {l r:List Tk} {s:Bs} {ms:List Bs} (h:iu ms l= .ok (s,r)):r.length=l.length-1:=by
 obtain ⟨_,_,_,_,_,e⟩:=nh h;rw[e,List.length_tail]
theorem qe {l:List Tk} {b:Nat} (w:World) (h:Ps w b l) (er:l.length≤1000000) :
  Calls Tryz.prog 77 #[FO (some ⟨b,0,none⟩)] w fun e w'=>C8 (eI l) b w.heap.size e w'∧aa [b] w w':=by
 obtain ⟨i0,hi,d9,eA,d7⟩:=info_parts E9;have HL:=Fx er;obtain ⟨R,hR⟩:∃ R,eI l=R:=⟨_,rfl⟩
 rw[hR];unfold eI at hR;obtain ⟨N,d2⟩:∃ N,(aS l).at_=N:=⟨_,rfl⟩
 rw[d2] at hR;have HR:=Fx hR;have H:=Fx h;obtain ⟨g,o,c,c0,z0,lb,lg,-,hn,hc,f5,k0,k1,k2,-⟩:=h.open';rw[d2] at k2;have e9:(0:Int)<(l.length:Int):=by omega
 have HW:=Fx (nk w (FQ #[FR FS 0,FM ⟨#[]⟩,FN none 0 0] 57));have a8:=Fx ((FL w 57 #[FR FS 0,FM ⟨#[]⟩,FN none 0 0]).alloc (FQ #[FR FS N,FM ⟨#[]⟩,FN none 0 0] 57));have dB:=FL (w.alloc (FQ #[FR FS 0,FM ⟨#[]⟩,FN none 0 0] 57)) 57 #[FR FS N,FM ⟨#[]⟩,FN none 0 0];rw[nk] at dB;have a7:=Fx dB;have cm:=Fx (((FK [] w).alloc (FQ #[FR FS 0,FM ⟨#[]⟩,FN none 0 0] 57)).alloc (FQ #[FR FS N,FM ⟨#[]⟩,FN none 0 0] 57));have d6:Hid (w.heap.size≠b):=Fx (by omega);have cu:Hid (w.heap.size≤w.heap.size+1):=Fx (by omega);have bX:=Fx (h.keep cm.out);clear h hR d2 dB er;go_enter Tryz.func77,Tryz.ntmps77
 go_upto_region 2 with (fail)
 obtain ⟨w0,e5⟩:∃ x,(w.alloc (FQ #[FR FS 0,FM ⟨#[]⟩,FN none 0 0] 57)).alloc (FQ #[FR FS N,FM ⟨#[]⟩,FN none 0 0] 57)=x:=⟨_,rfl⟩
 rw[e5] at a8 a7 cm bX ⊢;clear e5 HW c0 z0 lb lg hn hc f5 k0 k1 k2 e9;obtain ⟨xb,hx⟩:∃ xb,w.heap.size+1=xb:=⟨_,rfl⟩
 rw[hx] at a7 cu ⊢;obtain ⟨rb,hr⟩:∃ rb,w.heap.size=rb:=⟨_,rfl⟩
 rw[hr] at a8 d6 ⊢;have bZ:Hid (rb≠xb∧w.heap.size≤rb):=Fx (by omega);clear hx hr;rcases h1:aR [105,110] l with x|r1
 ·have HX:Hid (R= .error x):=Fx (by rw[←HR.out,h1];rfl)
  have HC:=Fx (cO h1 w0 bX.out);clear h1;go_wp2_with fail
  refine HC.out.mono ?_;rintro ev w9 ⟨⟨gi,rfl,hb⟩,a1⟩;exact ⟨rfl,by rw[HX.out];exact ⟨gi,rfl,hb⟩,cm.out.of_nil.trans a1⟩
 have ds:Hid ((do let (nm,r) ← aQ r1;let r ← aR [58] r;let (cs,r) ← dH r.length r [];let r ← aR [59] r;.ok (⟨N,nm,cs⟩,r))=R):=Fx (by rw[←HR.out,h1];rfl);have HC:=Fx (aT h1 w0 bX.out);have ey:=aF h1;have fb:=Fx ey;clear h1 HR ey;go_wp2_with fail
 refine HC.out.mono ?_;rintro ev w1 ⟨rfl,dv,cy⟩;have ci:=Fx dv;have c4:=Fx (bY bX.out cy a8.out (by decide));have c6:=Fx (bY bX.out cy a7.out (by decide));have d3:=Fx (cm.out.of_nil.trans cy);clear dv cy HC bX a8 a7 cm;rcases h2:aQ r1 with x|⟨nm,r2⟩
 ·have HX:Hid (R= .error x):=Fx (by rw[←ds.out,h2];rfl)
  have HC:=Fx (bR h2 w1 ci.out);clear h2;go_wp2_with fail
  refine HC.out.mono ?_;rintro ev w9 ⟨⟨gi,rfl,hb⟩,a1⟩;exact ⟨rfl,by rw[HX.out];exact ⟨gi,rfl,hb⟩,d3.out.trans a1⟩
 have d0:Hid ((do let r ← aR [58] r2;let (cs,r) ← dH r.length r [];let r ← aR [59] r;.ok (⟨N,nm,cs⟩,r))=R):=Fx (by rw[←ds.out,h2];rfl);have HC:=Fx (bi h2 w1 ci.out);have e8:=Fx (az h2);clear h2 ds;go_wp2_with fail
 refine HC.out.mono ?_;rintro ev w2 ⟨rfl,bo,av⟩;have HP2':=Fx bo;have HRB2':=Fx (bY ci.out av c4.out (by decide));have HXB2':=Fx (bY ci.out av c6.out (by decide));have HK2':=Fx (d3.out.trans av);clear bo av HC ci c4 c6 d3;have e0:w2.cell? ⟨xb,1,none⟩=some (FM ⟨#[]⟩):=HXB2'.out.cell 1;have e1:=HXB2'.out.frozen 1;have e2:=HXB2'.out.lt;go_upto_region 4 with (fail)
 have b4:=Fx (HP2'.out.set (i:=1) HXB2'.out (by decide) (by decide) (FM (bs nm)));have cd:=Fx (HRB2'.out.far (p:=⟨xb,1,none⟩) bZ.out.1 (FM (bs nm)));have b7:=Fx ((HXB2'.out.set 1 (FM (bs nm))).congr (cs':= #[FR FS N,FM (bs nm),FN none 0 0]) rfl);have cx:=Fx (HK2'.out.setCell (p:=⟨xb,1,none⟩) (.inr cu.out) (FM (bs nm)));obtain ⟨w3,ez⟩:∃ x,w2.setCell ⟨xb,1,none⟩ (FM (bs nm))=x:=⟨_,rfl⟩
 rw[ez] at b4 cd b7 cx ⊢;clear ez HP2' HRB2' HXB2' HK2' e0 e1 e2;rcases h3:aR [58] r2 with x|r3
 ·have HX:Hid (R= .error x):=Fx (by rw[←d0.out,h3];rfl)
  have HC:=Fx (cO h3 w3 b4.out);clear h3;go_wp2_with fail
  refine HC.out.mono ?_;rintro ev w9 ⟨⟨gi,rfl,hb⟩,a1⟩;exact ⟨rfl,by rw[HX.out];exact ⟨gi,rfl,hb⟩,cx.out.trans a1⟩
 obtain ⟨S,hS⟩:∃ S,dH r3.length r3 []=S:=⟨_,rfl⟩
 have cr:Hid ((S >>= fun p=>(aR [59] p.2 >>= fun r=> .ok (⟨N,nm,p.1⟩,r)))=R):=Fx (by rw[←d0.out,h3,aq,hS]);have HS:=Fx hS;have HC:=Fx (aT h3 w3 b4.out);have e7:=Fx (aF h3);have ch:r3.length≤l.length:=by have:=fb.out;have:=e8.out;have:=e7.out;omega
 clear h3 d0 hS;go_wp2_with fail
 refine HC.out.mono ?_;rintro ev w4 ⟨rfl,es,ct⟩;have et:=Fx es;have c5:=Fx (bY b4.out ct cd.out (by decide));have cz:=Fx (bY b4.out ct b7.out (by decide));have en:=Fx (cx.out.trans ct);clear es ct HC b4 cd b7 cx;go_wp2_with fail
 go_loopw [4] (fun m wr=>∃ (mb:Bool) (acc:List Cl) (q:List Tk) (n:Nat) (v:Value),m= .bool mb∧Hid (mb=true→dH n q acc=S∧q.length≤n)∧Hid (mb=false→S= .ok (acc,q))∧acc.length+q.length≤l.length∧Hid (Ps wr b q)∧Hid (ao wr xb 57 #[FR FS N,FM (bs nm),v])∧Hid (ao wr rb 57 #[FR FS 0,FM ⟨#[]⟩,FN none 0 0])∧Hid (wr.ownsRow w.heap.size 64 2 v acc.length (ai acc))∧Hid (aa [b] w wr)) (fun _ wr=>nN b wr)
 case atStart=>exact ⟨true,[],r3,r3.length,_,rfl,Fx (fun _=>⟨HS.out,Fy _⟩),Fx (fun h=>by cases h),by simpa using ch,et,cz,c5,Fx (World.ownsRow_nil _ _ _ _),en⟩
 clear et cz c5 en ch HS;obtain ⟨mb,acc,q,n,v,rfl,HG,HF,f8,HP,a7,a8,HO,HK⟩:=hrel;obtain ⟨A,cv,rfl,-⟩:=ar HO.out;have HM:=Fx HP.out.left
 cases mb with
 | false =>
  have b1:=Fx (HF.out rfl);clear HF HG;rcases h7:aR [59] q with x|r7
  ·have HX:Hid (R= .error x):=Fx (by rw[←cr.out,b1.out,aq,h7];rfl)
   have HC:=Fx (cO h7 wr HP.out);clear h7;go_wp2_with fail
   refine HC.out.mono ?_;rintro ev w9 ⟨⟨gi,rfl,hb⟩,a1⟩;exact ⟨rfl,by rw[HX.out];exact ⟨gi,rfl,hb⟩,HK.out.trans a1⟩
  have HX:Hid (R= .ok (⟨N,nm,acc⟩,r7)):=Fx (by rw[←cr.out,b1.out,aq,h7];rfl);have HC:=Fx (aT h7 wr HP.out);clear h7;go_wp2_with fail
  refine HC.out.mono ?_;rintro ev Z ⟨rfl,hp,hk⟩;have b6:=bY HP.out hk a7.out (by decide);have ba:=bY HP.out hk a8.out (by decide);have a5:=Fx (gy HO.out HP.out hk (by decide));have a9:=Fx (HK.out.trans hk);have aA:=Fx hp;have d1:=Fx ba;have x0:Z.cell? ⟨xb,0,none⟩=some (FR FS N):=b6.cell 0;have x1:Z.cell? ⟨xb,1,none⟩=some (FM (bs nm)):=b6.cell 1;have x2:Z.cell? ⟨xb,2,none⟩=some (FN A acc.length cv):=b6.cell 2;have lx:=b6.lt;have y0:Z.cell? ⟨rb,0,none⟩=some (FR FS 0):=ba.cell 0;have y1:Z.cell? ⟨rb,1,none⟩=some (FM ⟨#[]⟩):=ba.cell 1;have y2:Z.cell? ⟨rb,2,none⟩=some (FN none 0 0):=ba.cell 2;have f0:=ba.frozen 0;have f1:=ba.frozen 1;have f2:=ba.frozen 2;have lr:=ba.lt;clear hp hk b6 ba HC;go_wp2;have d5:=((d1.out.set 0 (FR FS N)).set 1 (FM (bs nm))).set 2 (FN A acc.length cv);have z0:=d5.cell 0;have z1:=d5.cell 1;have z2:=d5.cell 2;refine bodyPost_ret (v:= .agg #[FR FS N,FM (bs nm),FN A acc.length cv]) (by simp[results,Tryz.results77,go_sem,z0,z1,z2]) rfl ⟨?_,?_⟩
  ·rw[HX.out]
   have cq:aa [rb] Z (((Z.setCell ⟨rb,0,none⟩ (FR FS N)).setCell ⟨rb,1,none⟩ (FM (bs nm))).setCell ⟨rb,2,none⟩ (FN A acc.length cv)):=(((FK [rb] Z).setCell (.inl (by simp)) _).setCell (.inl (by simp)) _).setCell (.inl (by simp)) _;exact ⟨_,rfl,aC a5.out cq (fun g hg hm=>by rw[List.mem_singleton.1 hm] at hg;exact (aK a5.out rb hg).ne d1.out.ty (by decide) rfl),aA.out.far cq (fun x hx=>⟨57,by rw[List.mem_singleton.1 hx];exact d1.out.ty,by decide,by decide⟩)⟩
  exact ((a9.out.setCell (.inr bZ.out.2) _).setCell (.inr bZ.out.2) _).setCell (.inr bZ.out.2) _
 | true =>
  obtain ⟨eb,gk⟩:=HG.out rfl;have f9:=HP.out.endT.pos;obtain ⟨n,rfl⟩:∃ m,n=m+1:=⟨n-1,by omega⟩
  have dq:=Fx eb;clear eb HG HF;rcases h5:aQ q with x|⟨s,q1⟩
  ·have HX:Hid (R= .error x):=Fx (by rw[←cr.out,←dq.out,fd,h5];rfl)
   have HC:=Fx (bR h5 wr HP.out);clear h5;go_wp2_with fail
   refine HC.out.mono ?_;rintro ev w9 ⟨⟨gi,rfl,hb⟩,a1⟩;exact ⟨rfl,by rw[HX.out];exact ⟨gi,rfl,hb⟩,HK.out.trans a1⟩
  have cj:Hid ((iu [[105,110,116],[116,101,120,116]] q1 >>= fun p=>(if bC [44] p.2 then dH n p.2.tail (acc++[⟨s,if p.1=[116,101,120,116] then 2 else 1⟩]) else .ok (acc++[⟨s,if p.1=[116,101,120,116] then 2 else 1⟩],p.2)))=S):=Fx (by
   rw[←dq.out,fd,h5];rfl)
  have HC:=Fx (bi h5 wr HP.out);have fc:=Fx (az h5);clear h5 dq;go_wp2_with fail
  refine HC.out.mono ?_;rintro ev w2 ⟨rfl,bo,av⟩;have be:=Fx ((bo.keep ((FK _ _).alloc (FQ #[FM (bs s),FR FS 1] 64))).keep ((FK _ _).alloc (FQ #[FM (bs [105,110,116]),FM (bs [116,101,120,116])] 9)));have c9:=Fx (((HK.out.trans av).alloc (FQ #[FM (bs s),FR FS 1] 64)).alloc (FQ #[FM (bs [105,110,116]),FM (bs [116,101,120,116])] 9));have c7:=Fx (((bY HP.out av a7.out (by decide)).alloc (FQ #[FM (bs s),FR FS 1] 64)).alloc (FQ #[FM (bs [105,110,116]),FM (bs [116,101,120,116])] 9));have c3:=Fx (((bY HP.out av a8.out (by decide)).alloc (FQ #[FM (bs s),FR FS 1] 64)).alloc (FQ #[FM (bs [105,110,116]),FM (bs [116,101,120,116])] 9));have eB:=Fx (((gy HO.out HP.out av (by decide)).alloc (FQ #[FM (bs s),FR FS 1] 64)).alloc (FQ #[FM (bs [105,110,116]),FM (bs [116,101,120,116])] 9));have c1:=Fx ((FL w2 64 #[FM (bs s),FR FS 1]).alloc (FQ #[FM (bs [105,110,116]),FM (bs [116,101,120,116])] 9));have c8:=FL (w2.alloc (FQ #[FM (bs s),FR FS 1] 64)) 9 #[FM (bs [105,110,116]),FM (bs [116,101,120,116])];rw[nk] at c8;have eX:Rd ((w2.alloc (FQ #[FM (bs s),FR FS 1] 64)).alloc (FQ #[FM (bs [105,110,116]),FM (bs [116,101,120,116])] 9)) [b] 1 (some ⟨w2.heap.size+1,0,none⟩) 2 (strs [[105,110,116],[116,101,120,116]]):=ri [[105,110,116],[116,101,120,116]] c8 (by have:=bo.lt;omega);have dt:=Fx eX;have fn:Hid (w.heap.size≤w2.heap.size):=Fx (HK.out.trans av).size;have e4:Hid (xb≠w2.heap.size∧rb≠w2.heap.size):=Fx ⟨by have:=a7.out.lt;have:=av.size;omega,by have:=a8.out.lt;have:=av.size;omega⟩;have fs:Hid (b<w2.heap.size):=Fx bo.lt;have fS:Hid ((Value.slice A acc.length cv).ownBlock≠some w2.heap.size):=Fx (fun e=>by have:=(HO.out.lt _ e).2;have:=av.size;omega);clear bo av c8 eX HC HP a7 a8 HO HK;go_wp2_with fail
  rcases h6:iu [[105,110,116],[116,101,120,116]] q1 with x|⟨k,q2⟩
  ·have HX:Hid (R= .error x):=Fx (by rw[←cr.out,←cj.out,h6];rfl)
   have HC:=Fx (re h6 (some ⟨w2.heap.size+1,0,none⟩) 2 _ be.out dt.out (by decide));clear h6;refine HC.out.mono ?_;rintro ev w9 ⟨⟨gi,rfl,hb⟩,a1⟩;exact ⟨rfl,by rw[HX.out];exact ⟨gi,rfl,hb⟩,c9.out.trans a1⟩
  have HC:=Fx (nj h6 (some ⟨w2.heap.size+1,0,none⟩) 2 _ be.out dt.out (by decide));have cq:k=[105,110,116]∨k=[116,101,120,116]:=by
   obtain ⟨i,_,f6,e,_⟩:=nh h6;rw[e]
   match i,f6 with
   | 0,_=>exact .inl rfl
   | 1,_=>exact .inr rfl
  have bz:Hid ((if bC [44] q2 then dH n q2.tail (acc++[⟨s,if k=[116,101,120,116] then 2 else 1⟩]) else .ok (acc++[⟨s,if k=[116,101,120,116] then 2 else 1⟩],q2))=S):=Fx (by rw[←cj.out,h6];rfl);have f3:=fe h6;have a6:Hid (q2.length+2≤q.length):=Fx (by
   have h5':=fc.out;have dv:=be.out.endT.pos;omega)
  clear h6 f3 cj;generalize el:w2.heap.size=cb at *;have f7:=Fx el;clear el;refine HC.out.mono ?_;rintro ev w5 ⟨rfl,d8,b3⟩;have HP5':=Fx d8;have HK5':=Fx (c9.out.trans b3);have HXB5':=Fx (bY be.out b3 c7.out (by decide));have HRB5':=Fx (bY be.out b3 c3.out (by decide));have HCB5':=Fx (bY be.out b3 c1.out (by decide));have HO5':=Fx (gy eB.out be.out b3 (by decide));clear d8 b3 HC be c9 c7 c3 eB c1 dt;rcases cq with rfl|rfl
  ·have bj:Hid ((if bC [44] q2 then dH n q2.tail (acc++[⟨s,1⟩]) else .ok (acc++[⟨s,1⟩],q2))=S):=Fx bz.out
   clear bz;go_upto_region 12 with (fail)
   have b0:=HP5';have bb:=HK5';have I:=HXB5';have a0:=HRB5';have U:=HCB5';have ad:=HO5';clear HP5' HK5' HXB5' HRB5' HCB5' HO5';have b8:=Fx (show acc.length+1≤maxLen∧(acc.length+1)*24≤140737488355328 by have:=HL.out;simp only[maxLen];omega);have dz:=I.out.frozen 2;have x2:w5.cell? ⟨xb,2,none⟩=some (FN A acc.length cv):=I.out.cell 2;have lx:=I.out.lt;have q0:w5.cell? ⟨cb,0,none⟩=some (FM (bs s)):=U.out.cell 0;have q1:w5.cell? ⟨cb,1,none⟩=some (FR FS 1):=U.out.cell 1;have lc:=U.out.lt;have d4:=Fx (show w.heap.size≤w5.heap.size+1 from Nat.le_succ_of_le bb.out.size);go_wp2_with (at_builtin;refine wpList_append_lies _ rfl _ _ 51 rfl _ 64 i0 _ 2 24 Tryz.underlying51 hi d9 eA d7 rfl (by decide) _ acc.length (ai acc) rfl (ad.out.alloc _) ⟨w5.heap.size,0,none⟩ 1 1 [FM (bs s),FR FS 1] rfl rfl (FI (heap_alloc_new _ _)) (by simp[Value.oneCell']) (by decide) b8.out.1 b8.out.2 (by simp;exact d4.out) _ rfl ?_)
   intro gw co w8 J D b5 ca;have ce:=(b0.out.keep ((FK _ _).alloc (FQ #[FM (bs s),FR FS 1] 64))).grown D (fun x hx=>(aK ad.out x hx).keep ((FK [] _).alloc _) (by simp)) (by decide) (by decide);have M:ao w8 xb 57 #[FR FS N,FM (bs nm),FN A acc.length cv]:=(D.block xb ((I.out.alloc _).lt) (fun e=>(aK ad.out xb e.symm).ne I.out.ty (by decide) rfl)).trans (I.out.alloc _);have bc:ao w8 rb 57 #[FR FS 0,FM ⟨#[]⟩,FN none 0 0]:=(D.block rb ((a0.out.alloc _).lt) (fun e=>(aK ad.out rb e.symm).ne a0.out.ty (by decide) rfl)).trans (a0.out.alloc _);have cn:=(bb.out.alloc (FQ #[FM (bs s),FR FS 1] 64)).grown D (fun g hg=> .inr (ad.out.lt g hg).1);rw[←mz] at J;have fz:=M.frozen 2;have x8:w8.cell? ⟨xb,2,none⟩=some (FN A acc.length cv):=M.cell 2;have ff:=M.lt;obtain ⟨u,hu⟩:∃ u,Value.slice (some ⟨gw,0,none⟩) (acc.length+1) co=u:=⟨_,rfl⟩
   have O:=Fx (ce.set (i:=2) M (by decide) (by decide) u);have a4:=Fx ((M.set 2 u).congr (cs':= #[FR FS N,FM (bs nm),u]) rfl);have br:Hid ((w8.setCell ⟨xb,2,none⟩ u).ownsRow w.heap.size 64 2 u (acc++[(⟨s,1⟩:Cl)]).length (ai (acc++[(⟨s,1⟩:Cl)]))):=Fx (by
    rw[Fz];rw[hu] at J;exact aC J (L:=[xb]) (aa.setCell (FK _ _) (.inl (by simp)) _) (fun g hg hm=>by
     rw[List.mem_singleton.1 hm] at hg;exact (aK J xb hg).ne M.ty (by decide) rfl))
   have bl:=Fx (cn.setCell (p:=⟨xb,2,none⟩) (.inr cu.out) u);have a2:=Fx (bc.far (p:=⟨xb,2,none⟩) bZ.out.1 u);obtain ⟨w9,bm⟩:∃ x,w8.setCell ⟨xb,2,none⟩ u=x:=⟨_,rfl⟩
   rw[bm] at O a4 br bl a2;have dr:=Fx bm;have HU:=Fx hu;clear J D b5 ca ce cn q0 q1 lc x2 dz lx hu bm bc;clear b0 ad U I bb;go_upto_region 7 with (fail)
   rw[HU.out,dr.out];have HT:=fa [44] w9 O.out
   cases hs:bC [44] q2 with
   | false =>
    rw[hs] at HT;have a3:=Fx HT;have b1:Hid (S= .ok (acc++[⟨s,1⟩],q2)):=Fx (by rw[←bj.out,hs];rfl);clear HT hs;go_wp2_with fail
    refine a3.out.mono ?_;rintro ev Z ⟨rfl,hp,hk⟩;have aA:Hid (Ps Z b q2):=Fx hp;have bv:=Fx (bY O.out hk a4.out (by decide));have bq:=Fx (bY O.out hk a2.out (by decide));have a5:=Fx (gy br.out O.out hk (by decide));have a9:=Fx (bl.out.trans hk);clear hp hk a3;go_wp2;go_roundw
    case rel=>exact ⟨false,acc++[⟨s,1⟩],q2,0,u,rfl,Fx (fun h=>by cases h),Fx (fun _=>b1.out),by have:=a6.out;simp;omega,aA,bv,bq,a5,a9⟩
    case measure=>have:=a6.out;rw[aA.out.left,HM.out];omega
   | true =>
    rw[hs,if_pos rfl] at HT;have a3:=Fx HT;have cg:q2.tail.length=q2.length-1:=List.length_tail;have bk:=Fx cg;have b9:Hid (dH n q2.tail (acc++[⟨s,1⟩])=S):=Fx (by rw[←bj.out,hs];rfl);clear HT hs cg;go_wp2_with fail
    refine a3.out.mono ?_;rintro ev Z ⟨rfl,hp,hk⟩;have aA:=Fx hp;have bv:=Fx (bY O.out hk a4.out (by decide));have bq:=Fx (bY O.out hk a2.out (by decide));have a5:=Fx (gy br.out O.out hk (by decide));have a9:=Fx (bl.out.trans hk);clear hp hk a3;go_wp2;go_roundw
    case rel=>exact ⟨true,acc++[⟨s,1⟩],q2.tail,n,u,rfl,Fx (fun _=>⟨b9.out,by have:=a6.out;have:=bk.out;omega⟩),Fx (fun h=>by cases h),by have:=a6.out;have:=bk.out;simp;omega,aA,bv,bq,a5,a9⟩
    case measure=>have:=a6.out;have:=bk.out;rw[aA.out.left,HM.out];omega
  have bj:Hid ((if bC [44] q2 then dH n q2.tail (acc++[⟨s,2⟩]) else .ok (acc++[⟨s,2⟩],q2))=S):=Fx bz.out;clear bz;have e6:w5.cell? ⟨cb,1,none⟩=some (FR FS 1):=HCB5'.out.cell 1;have fr:=HCB5'.out.frozen 1;have f4:=HCB5'.out.lt;go_upto_region 12 with (fail)
  have b0:=Fx (HP5'.out.setNew (i:=1) fs.out (FR FS 2));have bb:=Fx (HK5'.out.setCell (p:=⟨cb,1,none⟩) (.inr fn.out) (FR FS 2));have I:=Fx (HXB5'.out.far (p:=⟨cb,1,none⟩) e4.out.1 (FR FS 2));have a0:=Fx (HRB5'.out.far (p:=⟨cb,1,none⟩) e4.out.2 (FR FS 2));have U:=Fx ((HCB5'.out.set 1 (FR FS 2)).congr (cs':= #[FM (bs s),FR FS 2]) rfl);have ad:Hid ((w5.setCell ⟨cb,1,none⟩ (FR FS 2)).ownsRow w.heap.size 64 2 (FN A acc.length cv) acc.length (ai acc)):=Fx (aC HO5'.out (L:=[cb]) (aa.setCell (FK _ _) (.inl (by simp)) _) (fun g hg hm=>fS.out (by rw[←List.mem_singleton.1 hm];exact hg)));obtain ⟨w6,eY⟩:∃ x,w5.setCell ⟨cb,1,none⟩ (FR FS 2)=x:=⟨_,rfl⟩
  rw[eY] at b0 bb I a0 U ad ⊢;clear eY e6 fr f4 HP5' HK5' HXB5' HRB5' HCB5' HO5';have b8:=Fx (show acc.length+1≤maxLen∧(acc.length+1)*24≤140737488355328 by have:=HL.out;simp only[maxLen];omega);have dz:=I.out.frozen 2;have x2:w6.cell? ⟨xb,2,none⟩=some (FN A acc.length cv):=I.out.cell 2;have lx:=I.out.lt;have q0:w6.cell? ⟨cb,0,none⟩=some (FM (bs s)):=U.out.cell 0;have q1:w6.cell? ⟨cb,1,none⟩=some (FR FS 2):=U.out.cell 1;have lc:=U.out.lt;have d4:=Fx (show w.heap.size≤w6.heap.size+1 from Nat.le_succ_of_le bb.out.size);go_wp2_with (at_builtin;refine wpList_append_lies _ rfl _ _ 51 rfl _ 64 i0 _ 2 24 Tryz.underlying51 hi d9 eA d7 rfl (by decide) _ acc.length (ai acc) rfl (ad.out.alloc _) ⟨w6.heap.size,0,none⟩ 1 1 [FM (bs s),FR FS 2] rfl rfl (FI (heap_alloc_new _ _)) (by simp[Value.oneCell']) (by decide) b8.out.1 b8.out.2 (by simp;exact d4.out) _ rfl ?_)
  intro gw co w8 J D b5 ca;have ce:=(b0.out.keep ((FK _ _).alloc (FQ #[FM (bs s),FR FS 2] 64))).grown D (fun x hx=>(aK ad.out x hx).keep ((FK [] _).alloc _) (by simp)) (by decide) (by decide);have M:ao w8 xb 57 #[FR FS N,FM (bs nm),FN A acc.length cv]:=(D.block xb ((I.out.alloc _).lt) (fun e=>(aK ad.out xb e.symm).ne I.out.ty (by decide) rfl)).trans (I.out.alloc _);have bc:ao w8 rb 57 #[FR FS 0,FM ⟨#[]⟩,FN none 0 0]:=(D.block rb ((a0.out.alloc _).lt) (fun e=>(aK ad.out rb e.symm).ne a0.out.ty (by decide) rfl)).trans (a0.out.alloc _);have cn:=(bb.out.alloc (FQ #[FM (bs s),FR FS 2] 64)).grown D (fun g hg=> .inr (ad.out.lt g hg).1);rw[←mz] at J;have fz:=M.frozen 2;have x8:w8.cell? ⟨xb,2,none⟩=some (FN A acc.length cv):=M.cell 2;have ff:=M.lt;obtain ⟨u,hu⟩:∃ u,Value.slice (some ⟨gw,0,none⟩) (acc.length+1) co=u:=⟨_,rfl⟩
  have O:=Fx (ce.set (i:=2) M (by decide) (by decide) u);have a4:=Fx ((M.set 2 u).congr (cs':= #[FR FS N,FM (bs nm),u]) rfl);have br:Hid ((w8.setCell ⟨xb,2,none⟩ u).ownsRow w.heap.size 64 2 u (acc++[(⟨s,2⟩:Cl)]).length (ai (acc++[(⟨s,2⟩:Cl)]))):=Fx (by
   rw[Fz];rw[hu] at J;exact aC J (L:=[xb]) (aa.setCell (FK _ _) (.inl (by simp)) _) (fun g hg hm=>by
    rw[List.mem_singleton.1 hm] at hg;exact (aK J xb hg).ne M.ty (by decide) rfl))
  have bl:=Fx (cn.setCell (p:=⟨xb,2,none⟩) (.inr cu.out) u);have a2:=Fx (bc.far (p:=⟨xb,2,none⟩) bZ.out.1 u);obtain ⟨w9,bm⟩:∃ x,w8.setCell ⟨xb,2,none⟩ u=x:=⟨_,rfl⟩
  rw[bm] at O a4 br bl a2;have dr:=Fx bm;have HU:=Fx hu;clear J D b5 ca ce cn q0 q1 lc x2 dz lx hu bm bc;clear b0 ad U I bb;go_upto_region 7 with (fail)
  rw[HU.out,dr.out];have HT:=fa [44] w9 O.out
  cases hs:bC [44] q2 with
  | false =>
   rw[hs] at HT;have a3:=Fx HT;have b1:Hid (S= .ok (acc++[⟨s,2⟩],q2)):=Fx (by rw[←bj.out,hs];rfl);clear HT hs;go_wp2_with fail
   refine a3.out.mono ?_;rintro ev Z ⟨rfl,hp,hk⟩;have aA:Hid (Ps Z b q2):=Fx hp;have bv:=Fx (bY O.out hk a4.out (by decide));have bq:=Fx (bY O.out hk a2.out (by decide));have a5:=Fx (gy br.out O.out hk (by decide));have a9:=Fx (bl.out.trans hk);clear hp hk a3;go_wp2;go_roundw
   case rel=>exact ⟨false,acc++[⟨s,2⟩],q2,0,u,rfl,Fx (fun h=>by cases h),Fx (fun _=>b1.out),by have:=a6.out;simp;omega,aA,bv,bq,a5,a9⟩
   case measure=>have:=a6.out;rw[aA.out.left,HM.out];omega
  | true =>
   rw[hs,if_pos rfl] at HT;have a3:=Fx HT;have cg:q2.tail.length=q2.length-1:=List.length_tail;have bk:=Fx cg;have b9:Hid (dH n q2.tail (acc++[⟨s,2⟩])=S):=Fx (by rw[←bj.out,hs];rfl);clear HT hs cg;go_wp2_with fail
   refine a3.out.mono ?_;rintro ev Z ⟨rfl,hp,hk⟩;have aA:=Fx hp;have bv:=Fx (bY O.out hk a4.out (by decide));have bq:=Fx (bY O.out hk a2.out (by decide));have a5:=Fx (gy br.out O.out hk (by decide));have a9:=Fx (bl.out.trans hk);clear hp hk a3;go_wp2;go_roundw
   case rel=>exact ⟨true,acc++[⟨s,2⟩],q2.tail,n,u,rfl,Fx (fun _=>⟨b9.out,by have:=a6.out;have:=bk.out;omega⟩),Fx (fun h=>by cases h),by have:=a6.out;have:=bk.out;simp;omega,aA,bv,bq,a5,a9⟩
   case measure=>have:=a6.out;have:=bk.out;rw[aA.out.left,HM.out];omega
def bK (j:Jb) (v2 v3 v4:Value):Array Value :=
 #[FR FS j.at_,FR FS j.code,v2,v3,v4,FM (bs j.op),FM (bs j.left.col),FR FS j.left.val.kind,FR FS j.left.val.num,FM (bs j.left.val.word),FM (bs j.right.col),FR FS j.right.val.kind,FR FS j.right.val.num,FM (bs j.right.val.word),FR FS j.retry]
def cD (u v:Value):Prop:=∀ g,u.ownBlock=some g→v.ownBlock≠some g
theorem cD.symm {u v:Value} (h:cD u v):cD v u:=fun g I D=>h g D I
structure aV (W:World) (base jb:Nat) (j:Jb) (v2 v3 v4:Value):Prop where
 blk:ao W jb 50 (bK j v2 v3 v4)
 o2:W.ownsRow base 9 1 v2 j.outs.length (strs j.outs)
 o3:W.ownsRow base 9 1 v3 j.ins.length (strs j.ins)
 o4:W.ownsRow base 9 1 v4 j.cols.length (strs j.cols)
 n23:cD v2 v3
 n24:cD v2 v4
 n34:cD v3 v4
section
variable {W W' W7 w0:World} {base jb b g H cap n size:Nat} {j:Jb} {v2 v3 v4 u:Value} {l:List Tk} {a:Bs} {o:Obj} {L:List Nat} {xs:List Value} {e:TypeId}
theorem cA {t:TypeId} (h:W.ownsRow base e size u n xs) (D:aa L W W') (I:∀ x∈L,dP W x t) (J:e≠t):W'.ownsRow base e size u n xs :=
 aC h D (fun g N M=>(aK h g N).ne (I g M) J rfl)
theorem aV.far {t:TypeId} (h:aV W base jb j v2 v3 v4) (D:aa L W W') (I:∀ x∈L,dP W x t) (J:9≠t) (N:50≠t):aV W' base jb j v2 v3 v4 :=
 ⟨h.blk.keep D (fun M=>h.blk.ty.ne (I jb M) N rfl),cA h.o2 D I J,cA h.o3 D I J,cA h.o4 D I J,h.n23,h.n24,h.n34⟩
theorem aV.keep (h:aV W base jb j v2 v3 v4) (D:aa [] W W'):aV W' base jb j v2 v3 v4 :=
 h.far (t:=3) D (fun x I=>by cases I) (by decide) (by decide)
theorem aV.ps (h:aV W base jb j v2 v3 v4) (J:Ps W b l) (D:aa [b] W W'):aV W' base jb j v2 v3 v4 :=
 h.far D (fun x I=>by rw[List.mem_singleton.1 I];exact J.ty) (by decide) (by decide)
theorem aV.box {D:Jb} (h:aV W base jb j v2 v3 v4) (J:aa [jb] W W') (M:ao W' jb 50 (bK D v2 v3 v4)) (N:D.outs=j.outs) (e3:D.ins=j.ins) (O:D.cols=j.cols):aV W' base jb D v2 v3 v4:=by
 have I:∀ x∈[jb],dP W x 50:=fun x U=>by rw[List.mem_singleton.1 U];exact h.blk.ty
 refine ⟨M,?_,?_,?_,h.n23,h.n24,h.n34⟩
 ·rw[N];exact cA h.o2 J I (by decide)
 ·rw[e3];exact cA h.o3 J I (by decide)
 rw[O];exact cA h.o4 J I (by decide)
theorem Ps.box (J:Ps W b l) (h:aV W base jb j v2 v3 v4) (D:aa [jb] W W'):Ps W' b l :=
 J.far D (fun x I=>⟨50,by rw[List.mem_singleton.1 I];exact h.blk.ty,by decide,by decide⟩)
theorem aa.box (h:aa [b] w0 W) (J:w0.heap.size≤jb) (D:aa [jb] W W'):aa [b] w0 W' :=
 h.trans' D (fun x I M=>by rw[List.mem_singleton.1 I] at M;omega)
theorem aV.put4 {cs:List Bs} (h:aV W base jb j v2 v3 v4) (J:W.ownsRow base 9 1 u cs.length (strs cs)) (O:cD v2 u) (M:cD v3 u):aV (W.setCell ⟨jb,4,none⟩ u) base jb { j with cols:=cs } v2 v3 u:=by
 have D:aa [jb] W (W.setCell ⟨jb,4,none⟩ u):=(FK _ _).setCell (.inl (by simp)) _;have I:∀ x∈[jb],dP W x 50:=fun x N=>by rw[List.mem_singleton.1 N];exact h.blk.ty
 exact ⟨(h.blk.set 4 u).congr rfl,cA h.o2 D I (by decide),cA h.o3 D I (by decide),cA J D I (by decide),h.n23,O,M⟩
theorem aV.put2 {cs:List Bs} (h:aV W base jb j v2 v3 v4) (J:W.ownsRow base 9 1 u cs.length (strs cs)) (N:cD u v3) (M:cD u v4):aV (W.setCell ⟨jb,2,none⟩ u) base jb { j with outs:=cs } u v3 v4:=by
 have D:aa [jb] W (W.setCell ⟨jb,2,none⟩ u):=(FK _ _).setCell (.inl (by simp)) _;have I:∀ x∈[jb],dP W x 50:=fun x O=>by rw[List.mem_singleton.1 O];exact h.blk.ty
 exact ⟨(h.blk.set 2 u).congr rfl,cA J D I (by decide),cA h.o3 D I (by decide),cA h.o4 D I (by decide),N,M,h.n34⟩
theorem cD.new (h:W.ownsRow base e size u n xs) (I:∀ g,v2.ownBlock=some g→W.heap.size≤g):cD u v2:=fun g J D=>by
 have M:=(h.lt g J).2;have N:=I g D;omega
theorem kZ (h:W.ownsRow base e size v2 n xs) (I:(W.alloc o).grownBy W7 u.ownBlock) (N:cD v2 u):W7.ownsRow base e size v2 n xs :=
 aC (L:=u.ownBlock.toList) (h.alloc o) (aa.grown (FK _ _) I (fun g I=> .inl (by rw[I];simp))) (fun g M D=>by
  have:u.ownBlock=some g:=by
   cases J:u.ownBlock with
   | none=>rw[J] at D;cases D
   | some x=>rw[J] at D;simp at D;rw[D]
  exact N g M this)
theorem jH {O:Value} {p q:Nat} (h:W.ownsRow base e size v2 n xs) (Z:cD v2 u) (U:O=FN (some ⟨g,0,none⟩) p q) (J:u.ownBlock=some g∨g=H) (hH:W.heap.size≤H):cD v2 O:=fun x N D=>by
 subst U;have I:g=x:=by simpa[Value.ownBlock] using D
 subst I;rcases J with M|M
 ·exact Z _ N M
 have:=(h.lt _ N).2;omega
end
section
variable {W W' W7 w0:World} {base jb b g H cap m:Nat} {j:Jb} {v2 v3 v4 u:Value} {l:List Tk} {a:Bs} {o:Obj}
theorem sE (h:aV W base jb j v2 v3 v4) {v:Value} (I:(W.alloc o).grownBy W7 v.ownBlock) (D:∀ x,v.ownBlock=some x→dP W x 9):ao W7 jb 50 (bK j v2 v3 v4) :=
 (I.block jb (h.blk.alloc o).lt (fun e=>(D jb e.symm).ne h.blk.ty (by decide) rfl)).trans (h.blk.alloc o)
theorem sF (I:Ps W b l) {v:Value} (J:(W.alloc o).grownBy W7 v.ownBlock) (h:∀ x,v.ownBlock=some x→dP W x 9):Ps W7 b l :=
 (I.keep ((FK _ _).alloc o)).grown J (fun x D=>(h x D).keep ((FK [] _).alloc o) (by simp)) (by decide) (by decide)
theorem aV.app3 (h:aV W base jb j v2 v3 v4) (hp:Ps W b l) (Z:aa [b] w0 W) (hb:base=w0.heap.size) (ad:base≤jb) (N:(W.alloc o).grownBy W7 v3.ownBlock) (hu:u=FN (some ⟨g,0,none⟩) m cap) (D:W7.ownsRow base 9 1 u (j.ins.length+1) (strs j.ins++[FM (bs a)])) (J:v3.ownBlock=some g∨g=H) (hH:W.heap.size≤H) :
  aV (W7.setCell ⟨jb,3,none⟩ u) base jb { j with ins:=j.ins++[a] } v2 u v4∧Ps (W7.setCell ⟨jb,3,none⟩ u) b l∧aa [b] w0 (W7.setCell ⟨jb,3,none⟩ u):=by
 have I:=sE h N (aK h.o3);have O:aa [jb] W7 (W7.setCell ⟨jb,3,none⟩ u):=(FK _ _).setCell (.inl (by simp)) _;have U:∀ x∈[jb],dP W7 x 50:=fun x M=>by rw[List.mem_singleton.1 M];exact I.ty
 rw[←fE] at D;have hown':W7.ownsRow base 9 1 u (j.ins++[a]).length (strs (j.ins++[a])):=by rw[Fz];exact D
 refine ⟨⟨(I.set 3 u).congr rfl,cA (kZ h.o2 N h.n23) O U (by decide),cA hown' O U (by decide),cA (kZ h.o4 N h.n34.symm) O U (by decide),?_,h.n24,?_⟩,?_,?_⟩
 ·exact jH h.o2 h.n23 hu J hH
 ·exact (jH h.o4 h.n34.symm hu J hH).symm
 ·exact (sF hp N (aK h.o3)).far O (fun x M=>⟨50,U x M,by decide,by decide⟩)
 exact ((Z.alloc o).grown N (fun x M=> .inr (by rw[←hb];exact (h.o3.lt x M).1))).setCell (.inr (by rw[←hb];exact ad)) _
theorem aV.app4 (h:aV W base jb j v2 v3 v4) (hp:Ps W b l) (Z:aa [b] w0 W) (hb:base=w0.heap.size) (ad:base≤jb) (N:(W.alloc o).grownBy W7 v4.ownBlock) (hu:u=FN (some ⟨g,0,none⟩) m cap) (D:W7.ownsRow base 9 1 u (j.cols.length+1) (strs j.cols++[FM (bs a)])) (J:v4.ownBlock=some g∨g=H) (hH:W.heap.size≤H) :
  aV (W7.setCell ⟨jb,4,none⟩ u) base jb { j with cols:=j.cols++[a] } v2 v3 u∧Ps (W7.setCell ⟨jb,4,none⟩ u) b l∧aa [b] w0 (W7.setCell ⟨jb,4,none⟩ u):=by
 have I:=sE h N (aK h.o4);have O:aa [jb] W7 (W7.setCell ⟨jb,4,none⟩ u):=(FK _ _).setCell (.inl (by simp)) _;have U:∀ x∈[jb],dP W7 x 50:=fun x M=>by rw[List.mem_singleton.1 M];exact I.ty
 rw[←fE] at D;have hown':W7.ownsRow base 9 1 u (j.cols++[a]).length (strs (j.cols++[a])):=by rw[Fz];exact D
 refine ⟨⟨(I.set 4 u).congr rfl,cA (kZ h.o2 N h.n24) O U (by decide),cA (kZ h.o3 N h.n34) O U (by decide),cA hown' O U (by decide),h.n23,?_,?_⟩,?_,?_⟩
 ·exact jH h.o2 h.n24 hu J hH
 ·exact jH h.o3 h.n34 hu J hH
 ·exact (sF hp N (aK h.o4)).far O (fun x M=>⟨50,U x M,by decide,by decide⟩)
 exact ((Z.alloc o).grown N (fun x M=> .inr (by rw[←hb];exact (h.o4.lt x M).1))).setCell (.inr (by rw[←hb];exact ad)) _
end
theorem aa.undrew {w w':World} {L:List Nat} (h:aa L w.drew w'):aa L w w':=⟨h.os,h.output,h.size,h.block⟩
theorem cT {Q:Exit→Act→World→Prop} {c} {h:Act} {w:World} {F K:Act→World→Prop} (_:∀ a w,F a w→K a w) (d:Option Nat) (v:Value) (D:Q (.panic c) h w) (_:Hid False→F (h.put d v) w):Q (.panic c) h w:=D
theorem wi {r q:List Tk} {v u:Vl} (h:kr r v= .ok (u,q)):q.length≤r.length:=by
 unfold kr at h;split at h
 ·injection h with h
  injection h with _ h;rw[←h,List.length_tail];omega
 cases h
theorem sG {neg:Bool} {r q:List Tk} {u:Vl} (h:eZ neg r= .ok (u,q)):q.length≤r.length:=by
 unfold eZ at h;split at h
 ·cases h
 split at h
 ·exact wi h
 split at h
 ·split at h
  ·exact wi h
  cases h
 cases h
theorem jI {l r:List Tk} {a:Ar} (h:lN l= .ok (a,r)):r.length≤l.length:=by
 unfold lN at h;split at h
 ·rcases D:aQ l with x|⟨s,I⟩
  ·rw[D] at h;cases h
  rw[D,aq] at h;injection h with h;injection h with _ h;rw[←h,az D];omega
 rcases D:iq l with x|⟨v,I⟩
 ·rw[D] at h;cases h
 rw[D,aq] at h;injection h with h;injection h with _ h;rw[←h];unfold iq at D;split at D
 ·exact FD (sG D) (by rw[List.length_tail];omega)
 exact sG D
def gb (R:Except (Int×Int) (Jb×List Tk)) (b base jb:Nat) (e:Ending) (w':World):Prop:=match R with
 | .ok (j,r)=>e=FP (.tuple #[])∧(∃ v2 v3 v4,aV w' base jb j v2 v3 v4)∧Ps w' b r
 | .error x=>bW x e w'
theorem qf {l:List Tk} {b jb lo:Nat} {v2 v3 v4:Value} (aA code:Int) (outs ins cols:List Bs) (op:Bs) (left right:Ar) (O:Int) (w0 w:World) (hE:FB w0 lo) (a5:lo≤b) (h:Ps w b l) (hk:aa [b] w0 w) (a7:w0.heap.size≤jb) (hj:aV w w0.heap.size jb ⟨aA,code,outs,ins,cols,op,left,right,O⟩ v2 v3 v4) (a9:ins.length≤1000000) (a8:cols.length≤1000000) (a3:l.length≤1000000) :
  Calls Tryz.prog 154 #[FO (some ⟨b,0,none⟩),FO (some ⟨jb,0,none⟩)] w fun e w'=>gb (em ⟨aA,code,outs,ins,cols,op,left,right,O⟩ l) b w0.heap.size jb e w'∧aa [b] w0 w':=by
 obtain ⟨i0,hi,b7,ca,b6⟩:=info_parts kX;obtain ⟨R,hR⟩:∃ R,em ⟨aA,code,outs,ins,cols,op,left,right,O⟩ l=R:=⟨_,rfl⟩
 rw[hR];unfold em at hR;try unfold xy at hR
 have HR:=Fx hR;have HE:=Fx hE;have M:=Fx h;have U:=Fx hk;have D:=Fx hj;have a1:=Fx a7;have b9:=Fx a9;have cd:=Fx a8;have b8:=Fx a3;have Z:=Fx (Fy l.length);clear hR hE h hk hj a9 a8 a3 a7;go_enter Tryz.func154,Tryz.ntmps154
 rcases J:aR [119,104,101,114,101] l with x|r1
 ·have I:=HR.out
  rw[J,aw] at I;have HX:=Fx I.symm;have HC:=Fx (cO J w M.out);clear I J;go_wp2_with fail
  refine HC.out.mono ?_;rintro ev w9 ⟨⟨gi,rfl,hb⟩,av⟩;exact ⟨rfl,by rw[HX.out];exact ⟨gi,rfl,hb⟩,U.out.trans av⟩
 have I:=HR.out;rw[J,aq] at I;try dsimp only at I
 clear HR;have HR:=Fx I;clear I;have HC:=Fx (aT J w M.out);have ad:Hid (r1.length≤l.length):=Fx (by have:=Z.out;have:=aF J;omega);clear J Z;have Z:=ad;clear ad;go_wp2_with fail
 refine HC.out.mono ?_;rintro ev y1 ⟨rfl,hp,hk⟩;have HJ':=Fx (D.out.ps M.out hk);have HK':=Fx (U.out.trans hk);clear M D U HC;have M:=Fx hp;have D:=HJ';have U:=HK';clear hp hk HJ' HK';rcases J:aQ r1 with x|⟨a2,r2⟩
 ·have I:=HR.out
  rw[J,aw] at I;have HX:=Fx I.symm;have HC:=Fx (bR J y1 M.out);clear I J;go_wp2_with fail
  refine HC.out.mono ?_;rintro ev w9 ⟨⟨gi,rfl,hb⟩,av⟩;exact ⟨rfl,by rw[HX.out];exact ⟨gi,rfl,hb⟩,U.out.trans av⟩
 have I:=HR.out;rw[J,aq] at I;try dsimp only at I
 clear HR;have HR:=Fx I;clear I;have HC:=Fx (bi J y1 M.out);have ad:Hid (r2.length≤l.length):=Fx (by have:=Z.out;have:=az J;omega);clear J Z;have Z:=ad;clear ad;go_wp2_with fail
 refine HC.out.mono ?_;rintro ev y2 ⟨rfl,hp,hk⟩;have HJ':=Fx (D.out.ps M.out hk);have HK':=Fx (U.out.trans hk);clear M D U HC;have M:=Fx hp;have D:=HJ';have U:=HK';clear hp hk HJ' HK';have ba:=D.out.blk.frozen 6;have br:y2.cell? ⟨jb,6,none⟩=some (FM (bs left.col)):=D.out.blk.cell 6;have bk:=D.out.blk.frozen 7;have bc:y2.cell? ⟨jb,7,none⟩=some (FR FS left.val.kind):=D.out.blk.cell 7;have bj:=D.out.blk.frozen 8;have bm:y2.cell? ⟨jb,8,none⟩=some (FR FS left.val.num):=D.out.blk.cell 8;have bv:=D.out.blk.frozen 9;have be:y2.cell? ⟨jb,9,none⟩=some (FM (bs left.val.word)):=D.out.blk.cell 9;have lj:=D.out.blk.lt;have N:aa [jb] y2 ((((y2.setCell ⟨jb,6,none⟩ (FM (bs a2))).setCell ⟨jb,7,none⟩ (FR FS 0)).setCell ⟨jb,8,none⟩ (FR FS 0)).setCell ⟨jb,9,none⟩ (FM ⟨#[]⟩)):=((((FK _ _).setCell (.inl (by simp)) _).setCell (.inl (by simp)) _).setCell (.inl (by simp)) _).setCell (.inl (by simp)) _;have HJ':Hid (aV ((((y2.setCell ⟨jb,6,none⟩ (FM (bs a2))).setCell ⟨jb,7,none⟩ (FR FS 0)).setCell ⟨jb,8,none⟩ (FR FS 0)).setCell ⟨jb,9,none⟩ (FM ⟨#[]⟩)) w0.heap.size jb (⟨aA,code,outs,ins,cols,op,⟨a2,zV⟩,right,O⟩:Jb) v2 v3 v4):=Fx (D.out.box N (((((D.out.blk.set 6 (FM (bs a2))).set 7 (FR FS 0)).set 8 (FR FS 0)).set 9 (FM ⟨#[]⟩)).congr (by rfl)) rfl rfl rfl);have HP':=Fx (M.out.box D.out N);have HK':=Fx (U.out.box a1.out N);clear N;go_upto_region 2 with (fail)
 obtain ⟨y3,hy⟩:∃ x,((((y2.setCell ⟨jb,6,none⟩ (FM (bs a2))).setCell ⟨jb,7,none⟩ (FR FS 0)).setCell ⟨jb,8,none⟩ (FR FS 0)).setCell ⟨jb,9,none⟩ (FM ⟨#[]⟩))=x:=⟨_,rfl⟩
 rw[hy] at HJ' HP' HK' ⊢;clear hy ba br bk bc bj bm bv be lj D M U;have D:=HJ';have M:=HP';have U:=HK';clear HJ' HP' HK';have HJ':=Fx (D.out.keep ((FK _ _).alloc (FQ #[FM (bs [60,62]),FM (bs [60,61]),FM (bs [62,61]),FM (bs [60]),FM (bs [62]),FM (bs [61])] 9)));have HP':=Fx (M.out.keep ((FK _ _).alloc (FQ #[FM (bs [60,62]),FM (bs [60,61]),FM (bs [62,61]),FM (bs [60]),FM (bs [62]),FM (bs [61])] 9)));have HK':=Fx (U.out.alloc (FQ #[FM (bs [60,62]),FM (bs [60,61]),FM (bs [62,61]),FM (bs [60]),FM (bs [62]),FM (bs [61])] 9));have a0:Hid (Rd (y3.alloc (FQ #[FM (bs [60,62]),FM (bs [60,61]),FM (bs [62,61]),FM (bs [60]),FM (bs [62]),FM (bs [61])] 9)) [b] 1 (some ⟨y3.heap.size,0,none⟩) 6 (strs [[60,62],[60,61],[62,61],[60],[62],[61]])):=Fx (ri [[60,62],[60,61],[62,61],[60],[62],[61]] (FL y3 9 #[FM (bs [60,62]),FM (bs [60,61]),FM (bs [62,61]),FM (bs [60]),FM (bs [62]),FM (bs [61])]) (by have:=M.out.lt;omega));clear D M U;have D:=HJ';have M:=HP';have U:=HK';clear HJ' HP' HK';go_wp2_with fail
 rcases J:iu [[60,62],[60,61],[62,61],[60],[62],[61]] r2 with x|⟨a4,r4⟩
 ·have I:=HR.out
  rw[J,aw] at I;have HX:=Fx I.symm;have HC:=Fx (re J (some ⟨y3.heap.size,0,none⟩) 6 _ M.out a0.out (by decide));clear I J;skip
  refine HC.out.mono ?_;rintro ev w9 ⟨⟨gi,rfl,hb⟩,av⟩;exact ⟨rfl,by rw[HX.out];exact ⟨gi,rfl,hb⟩,U.out.trans av⟩
 have I:=HR.out;rw[J,aq] at I;try dsimp only at I
 clear HR;have HR:=Fx I;clear I;have HC:=Fx (nj J (some ⟨y3.heap.size,0,none⟩) 6 _ M.out a0.out (by decide));have ad:Hid (r4.length≤l.length):=Fx (by have:=Z.out;have:=fe J;omega);clear J a0 Z;have Z:=ad;clear ad;refine HC.out.mono ?_;rintro ev y4 ⟨rfl,hp,hk⟩;have HJ':=Fx (D.out.ps M.out hk);have HK':=Fx (U.out.trans hk);clear M D U HC;have M:=Fx hp;have D:=HJ';have U:=HK';clear hp hk HJ' HK';have bb:=D.out.blk.frozen 5;have bq:y4.cell? ⟨jb,5,none⟩=some (FM (bs op)):=D.out.blk.cell 5;have lj:=D.out.blk.lt;have N:aa [jb] y4 (y4.setCell ⟨jb,5,none⟩ (FM (bs a4))):=(FK _ _).setCell (.inl (by simp)) _;have HJ':Hid (aV (y4.setCell ⟨jb,5,none⟩ (FM (bs a4))) w0.heap.size jb (⟨aA,code,outs,ins,cols,a4,⟨a2,zV⟩,right,O⟩:Jb) v2 v3 v4):=Fx (D.out.box N ((D.out.blk.set 5 (FM (bs a4))).congr (by rfl)) rfl rfl rfl);have HP':=Fx (M.out.box D.out N);have HK':=Fx (U.out.box a1.out N);clear N;go_upto_region 3 with (fail)
 obtain ⟨y5,hy⟩:∃ x,(y4.setCell ⟨jb,5,none⟩ (FM (bs a4)))=x:=⟨_,rfl⟩
 rw[hy] at HJ' HP' HK' ⊢;clear hy bb bq lj D M U;have D:=HJ';have M:=HP';have U:=HK';clear HJ' HP' HK';have HC:=Fx (nS y5 (HE.out.one a5 U.out) a5 M.out);rcases J:lN r4 with x|⟨a6,r6⟩
 ·have I:=HR.out
  rw[J,aw] at I;have HX:=Fx I.symm;have hc:=HC.out;rw[J] at hc;have bl:=Fx hc;clear I J hc HC;go_wp2_with fail
  refine bl.out.mono ?_;rintro ev w9 ⟨⟨gi,rfl,hb⟩,av⟩;exact ⟨rfl,by rw[HX.out];exact ⟨gi,rfl,hb⟩,U.out.trans av⟩
 have I:=HR.out;rw[J,aq] at I;try dsimp only at I
 clear HR;have HR:=Fx I;clear I;have hc:=HC.out;rw[J] at hc;clear HC;have HC:=Fx hc;have ad:Hid (r6.length≤l.length):=Fx (FD (jI J) Z.out);clear J hc Z;have Z:=ad;clear ad;go_wp2_with fail
 refine HC.out.mono ?_;rintro ev y6 ⟨⟨he,hp⟩,hk⟩;have bo:ev=FP (.agg #[FM (bs a6.col),FR FS a6.val.kind,FR FS a6.val.num,FM (bs a6.val.word)]):=he;subst bo;clear he;have HJ':=Fx (D.out.ps M.out hk);have HK':=Fx (U.out.trans hk);clear M D U HC;have M:=Fx hp;have D:=HJ';have U:=HK';clear hp hk HJ' HK';have bz:=D.out.blk.frozen 10;have bZ:y6.cell? ⟨jb,10,none⟩=some (FM (bs right.col)):=D.out.blk.cell 10;have b1:=D.out.blk.frozen 11;have b5:y6.cell? ⟨jb,11,none⟩=some (FR FS right.val.kind):=D.out.blk.cell 11;have b0:=D.out.blk.frozen 12;have bX:y6.cell? ⟨jb,12,none⟩=some (FR FS right.val.num):=D.out.blk.cell 12;have b3:=D.out.blk.frozen 13;have b4:y6.cell? ⟨jb,13,none⟩=some (FM (bs right.val.word)):=D.out.blk.cell 13;have lj:=D.out.blk.lt;have N:aa [jb] y6 ((((y6.setCell ⟨jb,10,none⟩ (FM (bs a6.col))).setCell ⟨jb,11,none⟩ (FR FS a6.val.kind)).setCell ⟨jb,12,none⟩ (FR FS a6.val.num)).setCell ⟨jb,13,none⟩ (FM (bs a6.val.word))):=((((FK _ _).setCell (.inl (by simp)) _).setCell (.inl (by simp)) _).setCell (.inl (by simp)) _).setCell (.inl (by simp)) _;have HJ':Hid (aV ((((y6.setCell ⟨jb,10,none⟩ (FM (bs a6.col))).setCell ⟨jb,11,none⟩ (FR FS a6.val.kind)).setCell ⟨jb,12,none⟩ (FR FS a6.val.num)).setCell ⟨jb,13,none⟩ (FM (bs a6.val.word))) w0.heap.size jb (⟨aA,code,outs,ins,cols,a4,⟨a2,zV⟩,a6,O⟩:Jb) v2 v3 v4):=Fx (D.out.box N (((((D.out.blk.set 10 (FM (bs a6.col))).set 11 (FR FS a6.val.kind)).set 12 (FR FS a6.val.num)).set 13 (FM (bs a6.val.word))).congr (by rfl)) rfl rfl rfl);have HP':=Fx (M.out.box D.out N);have HK':=Fx (U.out.box a1.out N);clear N;have HX:=Fx HR.out.symm;clear HR;go_wp2;first|go_end0|refine bodyPost_ret (results_none rfl _ _ _) rfl ?_
 exact ⟨by rw[HX.out];exact ⟨rfl,⟨_,_,_,HJ'.out⟩,HP'.out⟩,HK'.out⟩
theorem zM {l:List Tk} {b jb lo:Nat} {v2 v3 v4:Value} (ba code:Int) (outs ins cols:List Bs) (op:Bs) (left right:Ar) (av:Int) (w0 w:World) (hE:FB w0 lo) (_:lo≤b) (h:Ps w b l) (hk:aa [b] w0 w) (br:w0.heap.size≤jb) (hj:aV w w0.heap.size jb ⟨ba,code,outs,ins,cols,op,left,right,av⟩ v2 v3 v4) (bz:ins.length≤1000000) (bv:cols.length≤1000000) (bm:l.length≤1000000) :
  Calls Tryz.prog 153 #[FO (some ⟨b,0,none⟩),FO (some ⟨jb,0,none⟩)] w fun e w'=>gb (xz ⟨ba,code,outs,ins,cols,op,left,right,av⟩ l) b w0.heap.size jb e w'∧aa [b] w0 w':=by
 obtain ⟨i0,hi,a8,bb,a7⟩:=info_parts kX;obtain ⟨R,hR⟩:∃ R,xz ⟨ba,code,outs,ins,cols,op,left,right,av⟩ l=R:=⟨_,rfl⟩
 rw[hR];unfold xz at hR;try unfold xy at hR
 have HR:=Fx hR;have HE:=Fx hE;have M:=Fx h;have HK:=Fx hk;have J:=Fx hj;have bo:=Fx br;have a9:=Fx bz;have b0:=Fx bv;have b1:=Fx bm;have aA:=Fx (Fy l.length);clear hR hE h hk hj bz bv bm br;go_enter Tryz.func153,Tryz.ntmps153
 go_upto_region 0 with (fail)
 obtain ⟨A1,c1,hv,-⟩:=ar J.out.o3;subst hv;have fS:w.cell? ⟨jb,3,none⟩=some (FN A1 (ins).length c1)∧w.frozen? ⟨jb,3,none⟩=false:=⟨J.out.blk.cell 3,J.out.blk.frozen 3⟩;have lj:=J.out.blk.lt;have ad:=Fx (show (ins).length+1≤maxLen∧((ins).length+1)*16≤140737488355328 by have:=a9.out;simp only[maxLen];first|omega|(simp only[Fz,FG,List.length_nil];omega));have a5:Hid (jb∉[b]):=Fx (by have:=J.out.blk.ty.ne M.out.ty (by decide);simpa using this);rcases Z:aQ l with x|⟨a1,r1⟩
 ·have N:=HR.out
  rw[Z,aw] at N;have HX:=Fx N.symm;have HC:Hid (∀ W,aa [] w W→Calls Tryz.prog 80 #[FO (some ⟨b,0,none⟩)] W fun e w'=>bW x e w'∧aa [b] W w'):=Fx (fun W z=>bR Z W (M.out.keep z));clear N Z;go_wp2_with fail
  go_region_law (first|(refine step_append_lies _ (by rfl) _ _ _ (by rfl) w0.heap.size 9 i0 _ 1 16 Tryz.underlying44 hi a8 bb a7 rfl (by decide) (FN A1 (ins).length c1) (ins).length (strs (ins)) (by rfl) ((J.out.ps M.out D.undrew).o3.alloc _) ⟨w6.heap.size,0,none⟩ 1 1 [FM (bs [])] (by rfl) rfl (FI (heap_alloc_new _ _)) (by simp[Value.oneCell']) (by decide) ad.out.1 ad.out.2 (by have:=HK.out.size;have:=D.size;have h9:w.drew.heap.size=w.heap.size:=rfl;simp;omega) _ rfl ?_;intro gw cap w7 O I a0 a6;obtain ⟨bj,bk⟩:=aE I (aD ⟨U,a4⟩ _) (fun e=>(aK (J.out.ps M.out D.undrew).o3 jb e).ne (J.out.ps M.out D.undrew).blk.ty (by decide) rfl))|(go_simp;go_at_call 80;refine (HC.out _ (FK [] w).drew).mono ?_;rintro e w6 ⟨⟨gi,rfl,hb⟩,D⟩;obtain ⟨U,a4⟩:=aI D fS a5.out;have be:jb<w6.heap.size:=FC w6 ⟨jb,3,none⟩ U;dsimp only;(go_loud (refine cT ‹∀ (a:Act) (w:World),wpAny _ _ _ _ _ _ a w→_› (some 10) (FM (bs [])) ⟨rfl,by rw[HX.out];exact ⟨gi,rfl,hb⟩,HK.out.trans D.undrew⟩ (fun hF=>?_)))))
  all_goals exact hF.out.elim
 have N:=HR.out;rw[Z,aq] at N;try dsimp only at N
 clear HR;have HR:=Fx N;clear N;have HC:Hid (∀ W,aa [] w W→Calls Tryz.prog 80 #[FO (some ⟨b,0,none⟩)] W fun e w'=>e=FP (FM (bs a1))∧Ps w' b r1∧aa [b] W w'):=Fx (fun W z=>bi Z W (M.out.keep z));have a2:Hid (r1.length≤l.length):=Fx (by have:=aA.out;have:=az Z;omega);clear aA;have aA:=a2;clear a2;clear Z;go_cut [] (fun wx=>∃ bq,aV wx w0.heap.size jb (⟨ba,code,outs,ins++[a1],cols,op,left,right,av⟩:Jb) v2 bq v4∧Ps wx b r1∧aa [b] w0 wx)
 case first =>
  go_region_law (first|(refine step_append_lies _ (by rfl) _ _ _ (by rfl) w0.heap.size 9 i0 _ 1 16 Tryz.underlying44 hi a8 bb a7 rfl (by decide) (FN A1 (ins).length c1) (ins).length (strs (ins)) (by rfl) ((J.out.ps M.out D.undrew).o3.alloc _) ⟨w6.heap.size,0,none⟩ 1 1 [FM (bs a1)] (by rfl) rfl (FI (heap_alloc_new _ _)) (by simp[Value.oneCell']) (by decide) ad.out.1 ad.out.2 (by have:=HK.out.size;have:=D.size;have h9:w.drew.heap.size=w.heap.size:=rfl;simp;omega) _ rfl ?_;intro gw cap w7 O I a0 a6;obtain ⟨bj,bk⟩:=aE I (aD ⟨U,a4⟩ _) (fun e=>(aK (J.out.ps M.out D.undrew).o3 jb e).ne (J.out.ps M.out D.undrew).blk.ty (by decide) rfl))|(go_simp;go_at_call 80;refine (HC.out _ (FK [] w).drew).mono ?_;rintro e w6 ⟨rfl,bl,D⟩;obtain ⟨U,a4⟩:=aI D fS a5.out;have be:jb<w6.heap.size:=FC w6 ⟨jb,3,none⟩ U))
  all_goals
   go_wp2;go_meet;have hh:=aV.app3 (J.out.ps M.out D.undrew) bl (HK.out.trans D.undrew) rfl bo.out I rfl O a0 (by simp);exact ⟨_,hh.1,hh.2.1,hh.2.2⟩
 obtain ⟨bq,hj,hp,hk⟩:=hcut;obtain ⟨y1,rfl⟩:∃ y:World,y=wc:=⟨_,rfl⟩
 clear M J HK HC fS lj ad a5;have M:=Fx hp;have J:=Fx hj;have HK:=Fx hk;have bc:Hid ((ins++[a1]).length≤1000000+1):=Fx (by have:=a9.out;simp only[Fz,FG,List.length_nil];omega);clear hp hj hk a9;generalize ins++[a1]=il1 at J HR bc;have a9:=bc;clear bc;rcases Z:aR [46] r1 with x|r2
 ·have N:=HR.out
  rw[Z,aw] at N;have HX:=Fx N.symm;have HC:=Fx (cO Z y1 M.out);clear N Z;go_wp2_with fail
  refine HC.out.mono ?_;rintro ev w9 ⟨⟨gi,rfl,hb⟩,bX⟩;exact ⟨rfl,by rw[HX.out];exact ⟨gi,rfl,hb⟩,HK.out.trans bX⟩
 have N:=HR.out;rw[Z,aq] at N;try dsimp only at N
 clear HR;have HR:=Fx N;clear N;have HC:=Fx (aT Z y1 M.out);have a2:Hid (r2.length≤l.length):=Fx (by have:=aA.out;have:=aF Z;omega);clear Z aA;have aA:=a2;clear a2;go_wp2_with fail
 refine HC.out.mono ?_;rintro ev y2 ⟨rfl,hp,hk⟩;have HJ':=Fx (J.out.ps M.out hk);have HK':=Fx (HK.out.trans hk);clear M J HK HC;have M:=Fx hp;have J:=HJ';have HK:=HK';clear hp hk HJ' HK';go_upto_region 2 with (fail)
 obtain ⟨A3,c3,hv,-⟩:=ar J.out.o4;subst hv;have fS:y2.cell? ⟨jb,4,none⟩=some (FN A3 (cols).length c3)∧y2.frozen? ⟨jb,4,none⟩=false:=⟨J.out.blk.cell 4,J.out.blk.frozen 4⟩;have lj:=J.out.blk.lt;have ad:=Fx (show (cols).length+1≤maxLen∧((cols).length+1)*16≤140737488355328 by have:=b0.out;simp only[maxLen];first|omega|(simp only[Fz,FG,List.length_nil];omega));have a5:Hid (jb∉[b]):=Fx (by have:=J.out.blk.ty.ne M.out.ty (by decide);simpa using this);rcases Z:aQ r2 with x|⟨a3,r3⟩
 ·have N:=HR.out
  rw[Z,aw] at N;have HX:=Fx N.symm;have HC:Hid (∀ W,aa [] y2 W→Calls Tryz.prog 80 #[FO (some ⟨b,0,none⟩)] W fun e w'=>bW x e w'∧aa [b] W w'):=Fx (fun W z=>bR Z W (M.out.keep z));clear N Z;go_wp2_with fail
  go_region_law (first|(refine step_append_lies _ (by rfl) _ _ _ (by rfl) w0.heap.size 9 i0 _ 1 16 Tryz.underlying44 hi a8 bb a7 rfl (by decide) (FN A3 (cols).length c3) (cols).length (strs (cols)) (by rfl) ((J.out.ps M.out D.undrew).o4.alloc _) ⟨w6.heap.size,0,none⟩ 1 1 [FM (bs [])] (by rfl) rfl (FI (heap_alloc_new _ _)) (by simp[Value.oneCell']) (by decide) ad.out.1 ad.out.2 (by have:=HK.out.size;have:=D.size;have h9:y2.drew.heap.size=y2.heap.size:=rfl;simp;omega) _ rfl ?_;intro gw cap w7 O I a0 a6;obtain ⟨bj,bk⟩:=aE I (aD ⟨U,a4⟩ _) (fun e=>(aK (J.out.ps M.out D.undrew).o4 jb e).ne (J.out.ps M.out D.undrew).blk.ty (by decide) rfl))|(go_simp;go_at_call 80;refine (HC.out _ (FK [] y2).drew).mono ?_;rintro e w6 ⟨⟨gi,rfl,hb⟩,D⟩;obtain ⟨U,a4⟩:=aI D fS a5.out;have be:jb<w6.heap.size:=FC w6 ⟨jb,4,none⟩ U;dsimp only;(go_loud (refine cT ‹∀ (a:Act) (w:World),wpAny _ _ _ _ _ _ a w→_› (some 23) (FM (bs [])) ⟨rfl,by rw[HX.out];exact ⟨gi,rfl,hb⟩,HK.out.trans D.undrew⟩ (fun hF=>?_)))))
  all_goals exact hF.out.elim
 have N:=HR.out;rw[Z,aq] at N;try dsimp only at N
 clear HR;have HR:=Fx N;clear N;have HC:Hid (∀ W,aa [] y2 W→Calls Tryz.prog 80 #[FO (some ⟨b,0,none⟩)] W fun e w'=>e=FP (FM (bs a3))∧Ps w' b r3∧aa [b] W w'):=Fx (fun W z=>bi Z W (M.out.keep z));have a2:Hid (r3.length≤l.length):=Fx (by have:=aA.out;have:=az Z;omega);clear aA;have aA:=a2;clear a2;clear Z;have HX:=Fx HR.out.symm;clear HR;go_region_law (first|(refine step_append_lies _ (by rfl) _ _ _ (by rfl) w0.heap.size 9 i0 _ 1 16 Tryz.underlying44 hi a8 bb a7 rfl (by decide) (FN A3 (cols).length c3) (cols).length (strs (cols)) (by rfl) ((J.out.ps M.out D.undrew).o4.alloc _) ⟨w6.heap.size,0,none⟩ 1 1 [FM (bs a3)] (by rfl) rfl (FI (heap_alloc_new _ _)) (by simp[Value.oneCell']) (by decide) ad.out.1 ad.out.2 (by have:=HK.out.size;have:=D.size;have h9:y2.drew.heap.size=y2.heap.size:=rfl;simp;omega) _ rfl ?_;intro gw cap w7 O I a0 a6;obtain ⟨bj,bk⟩:=aE I (aD ⟨U,a4⟩ _) (fun e=>(aK (J.out.ps M.out D.undrew).o4 jb e).ne (J.out.ps M.out D.undrew).blk.ty (by decide) rfl))|(go_simp;go_at_call 80;refine (HC.out _ (FK [] y2).drew).mono ?_;rintro e w6 ⟨rfl,bl,D⟩;obtain ⟨U,a4⟩:=aI D fS a5.out;have be:jb<w6.heap.size:=FC w6 ⟨jb,4,none⟩ U))
 all_goals
  go_wp2;first|go_end0|refine bodyPost_ret (results_none rfl _ _ _) rfl ?_
  try (have bZ:=HCL.out;subst bZ)
  have hh:=aV.app4 (J.out.ps M.out D.undrew) bl (HK.out.trans D.undrew) rfl bo.out I rfl O a0 (by simp);exact ⟨by rw[HX.out];exact ⟨rfl,⟨_,_,_,hh.1⟩,hh.2.1⟩,hh.2.2⟩
def dm (s:Bs):Int:=Lib.idxOfS (eJ.map bs) (bs s)
theorem iw (s:Bs):∀ (ms:List Bs) (i:Nat),(Lib.idxFromS (ms.map bs) (bs s) i= -1∧dV s ms i=0)∨(Lib.idxFromS (ms.map bs) (bs s) i=(dV s ms i:Int)∧i≤dV s ms i∧dV s ms i<i+ms.length∧ms.getD (dV s ms i-i) []=s)
 | [],i=> .inl ⟨rfl,rfl⟩
 | m::ms,i=>by
  simp only[List.map_cons,Lib.idxFromS,dV];by_cases h:m=s
  ·right
   rw[if_pos (congrArg bs h),if_pos h];exact ⟨rfl,Fy _,by simp,by simpa using h⟩
  rw[if_neg (fun e=>h (zx e)),if_neg h];rcases iw s ms (i+1) with D|⟨D,M,J,I⟩
  ·exact .inl D
  right
  refine ⟨D,by omega,by simp;omega,?_⟩;rw[show dV s ms (i+1)-i=(dV s ms (i+1)-(i+1))+1 by omega];simpa using I
theorem db (s:Bs):max (dm s) 0=(bV s:Int):=by
 unfold dm bV Lib.idxOfS;rcases iw s eJ 0 with ⟨h,D⟩|⟨h,_⟩
 ·rw[h,D];rfl
 rw[h];omega
theorem cU {s:Bs} {c:Nat} (h:bV s=c) (I:c≠0):s=eJ.getD c []:=by
 unfold bV at h;rcases iw s eJ 0 with ⟨_,J⟩|⟨_,_,_,D⟩
 ·omega
 rw[h] at D;simpa using D.symm
theorem qg (s:Bs):bV s<10:=by
 unfold bV;rcases iw s eJ 0 with ⟨_,D⟩|⟨_,_,h,_⟩
 ·omega
 have:eJ.length=10:=rfl;omega
theorem cE (s:Bs) (W:World) (J:jU W):Calls Tryz.prog 48 #[FN (some ⟨4,0,none⟩) 10 10,FM (bs s)] W fun e W'=>e=FP (FR FS (dm s))∧W=W':=by
 have h:=Tryz.slices_Index_string 4 0 10 10 (eJ.map bs) (bs s) W (by decide) (by decide) (fun j D=>by
  have hj':j<eJ.length:=by simpa using D
  rw[Nat.zero_add,J.words j hj',FJ,List.getElem?_map,FA hj'];rfl)
 rw[List.take_of_length_le (by decide)] at h;exact h.mono fun e W' ⟨I,M⟩=>⟨I,M.symm⟩
theorem Dp {j M:Jb} {l r:List Tk} (h:xz j l= .ok (M,r)):∃ a c,M=⟨j.at_,j.code,j.outs,j.ins++[a],j.cols++[c],j.op,j.left,j.right,j.retry⟩∧r.length≤l.length:=by
 unfold xz at h;rcases I:aQ l with x|⟨a,O⟩
 ·rw[I] at h;cases h
 rw[I,aq] at h;dsimp only at h
 rcases J:aR [46] O with x|U
 ·rw[J] at h;cases h
 rw[J,aq] at h;rcases D:aQ U with x|⟨c,r3⟩
 ·rw[D] at h;cases h
 rw[D,aq] at h;injection h with h;injection h with N Z;exact ⟨a,c,N.symm,by rw[←Z,az D,aF J,az I];omega⟩
theorem qh {l:List Tk} {b jb lo:Nat} {v2 v3 v4:Value} (I code:Int) (outs ins cols:List Bs) (op:Bs) (left right:Ar) (D:Int) (w0 w:World) (hE:FB w0 lo) (aA:lo≤b) (h:Ps w b l) (hk:aa [b] w0 w) (ad:w0.heap.size≤jb) (hj:aV w w0.heap.size jb ⟨I,code,outs,ins,cols,op,left,right,D⟩ v2 v3 v4) (a3:ins.length≤1000) (a2:cols.length≤1000) (Z:l.length≤1000000) (N:bV (aS l).text=0) :
  Calls Tryz.prog 122 #[FO (some ⟨b,0,none⟩),FO (some ⟨jb,0,none⟩)] w fun e w'=>gb (bH ⟨I,code,outs,ins,cols,op,left,right,D⟩ l) b w0.heap.size jb e w'∧aa [b] w0 w':=by
 obtain ⟨i0,hi,a5,a9,a4⟩:=info_parts kX;obtain ⟨R,hR⟩:∃ R,bH ⟨I,code,outs,ins,cols,op,left,right,D⟩ l=R:=⟨_,rfl⟩
 rw[hR];have HE:=Fx hE;have HP:=Fx h;have HK:=Fx hk;have HJ:=Fx hj;have a0:=Fx ad;have a7:Hid (ins.length≤999000):=Fx (by omega);have ba:Hid (cols.length≤999000):=Fx (by omega);have a6:=Fx Z;have M:Hid (∀ W,aa [] w W→Calls Tryz.prog 48 #[FN (some ⟨4,0,none⟩) 10 10,FM (bs (aS l).text)] W fun e W'=>e=FP (FR FS (dm (aS l).text))∧W=W'):=Fx (fun W q=>cE (aS l).text W ((hE.one aA hk).quiet q).env);obtain ⟨q,hq⟩:∃ q,dm (aS l).text=q:=⟨_,rfl⟩
 rw[hq] at M;have HQ:=Fx hq;obtain ⟨g,o,c,c0,z0,lb,lg,-,hn,hc,O,k0,k1,k2,-⟩:=h.open';have U:(0:Int)<(l.length:Int):=by omega
 have f1:w.cell? ⟨jb,1,none⟩=some (FR FS code):=hj.blk.cell 1;have f2:=hj.blk.frozen 1;have lj:=hj.blk.lt;have a1:=Fx N;have HX:Hid (R= .error (3,(aS l).at_)):=Fx (by rw[←hR];unfold bH;rw[if_pos (.inl N)];rfl);clear hR hE h hk hj a3 a2 Z ad hq N;go_enter Tryz.func122,Tryz.ntmps122
 go_upto_region 0 with (fail)
 go_cut [] (fun wx=>wx=(w.setCell ⟨jb,1,none⟩ (FR FS (max q 0))).drew)
 case first =>
  go_region_law (first|(go_simp;go_at_call 48;refine (M.out _ (FK [] w).drew).mono ?_;rintro e w6 ⟨rfl,rfl⟩))
  all_goals
   go_wp2;go_meet;exact rfl
 subst hcut;clear c0 z0 lb lg hn hc O k0 k1 k2 U lj f1 f2 M;have J:aa [jb] w ((w.setCell ⟨jb,1,none⟩ (FR FS (max q 0))).drew):=((FK _ _).setCell (.inl (by simp)) _).drew;have hj':aV ((w.setCell ⟨jb,1,none⟩ (FR FS (max q 0))).drew) w0.heap.size jb ⟨I,max q 0,outs,ins,cols,op,left,right,D⟩ v2 v3 v4:=HJ.out.box J ((HJ.out.blk.set 1 (FR FS (max q 0))).congr (by rfl)) rfl rfl rfl;have hp':=HP.out.box HJ.out J;have hk':=HK.out.box a0.out J;have hm:max q 0=0:=by rw[←HQ.out,db,a1.out];rfl
 rw[hm] at hj' hp' hk' ⊢;clear hm J HJ HP HK;obtain ⟨y0,hy⟩:∃ x,(w.setCell ⟨jb,1,none⟩ (FR FS 0)).drew=x:=⟨_,rfl⟩
 rw[hy] at hj' hp' hk' ⊢;have HJ:=Fx hj';have HP:=Fx hp';have HK:=Fx hk';have a8:y0.cell? ⟨jb,1,none⟩=some (FR FS 0):=hj'.blk.cell 1;have lj:=hj'.blk.lt;obtain ⟨g,o,c,c0,z0,lb,lg,-,hn,hc,O,k0,k1,k2,-⟩:=hp'.open';have U:(0:Int)<(l.length:Int):=by omega
 clear hy hj' hp' hk' hn hc O HQ;go_wp2_with fail
 refine (bw 3 y0 HP.out).mono ?_;rintro ev w9 ⟨⟨gi,rfl,hb⟩,av⟩;exact ⟨rfl,by rw[HX.out];exact ⟨gi,rfl,hb⟩,HK.out.trans av.of_nil⟩
theorem xF {l:List Tk} {b jb lo:Nat} {v2 v3 v4:Value} (I code:Int) (outs ins cols:List Bs) (op:Bs) (left right:Ar) (D:Int) (w0 w:World) (hE:FB w0 lo) (a0:lo≤b) (h:Ps w b l) (hk:aa [b] w0 w) (av:w0.heap.size≤jb) (hj:aV w w0.heap.size jb ⟨I,code,outs,ins,cols,op,left,right,D⟩ v2 v3 v4) (a5:ins.length≤1000) (a4:cols.length≤1000) (ad:l.length≤1000000) {cc:Nat} (U:bV (aS l).text=cc) (a2:cc≠0) (N:(aS l).kind≠1) :
  Calls Tryz.prog 122 #[FO (some ⟨b,0,none⟩),FO (some ⟨jb,0,none⟩)] w fun e w'=>gb (bH ⟨I,code,outs,ins,cols,op,left,right,D⟩ l) b w0.heap.size jb e w'∧aa [b] w0 w':=by
 obtain ⟨i0,hi,a7,be,a6⟩:=info_parts kX;obtain ⟨R,hR⟩:∃ R,bH ⟨I,code,outs,ins,cols,op,left,right,D⟩ l=R:=⟨_,rfl⟩
 rw[hR];have HE:=Fx hE;have HP:=Fx h;have HK:=Fx hk;have HJ:=Fx hj;have a1:=Fx av;have ba:Hid (ins.length≤999000):=Fx (by omega);have bj:Hid (cols.length≤999000):=Fx (by omega);have a8:=Fx ad;have M:Hid (∀ W,aa [] w W→Calls Tryz.prog 48 #[FN (some ⟨4,0,none⟩) 10 10,FM (bs (aS l).text)] W fun e W'=>e=FP (FR FS (dm (aS l).text))∧W=W'):=Fx (fun W q=>cE (aS l).text W ((hE.one a0 hk).quiet q).env);obtain ⟨q,hq⟩:∃ q,dm (aS l).text=q:=⟨_,rfl⟩
 rw[hq] at M;have HQ:=Fx hq;obtain ⟨g,o,c,c0,z0,lb,lg,-,hn,hc,O,k0,k1,k2,-⟩:=h.open';have Z:(0:Int)<(l.length:Int):=by omega
 have f1:w.cell? ⟨jb,1,none⟩=some (FR FS code):=hj.blk.cell 1;have f2:=hj.blk.frozen 1;have lj:=hj.blk.lt;have a3:=Fx U;have HX:Hid (R= .error (3,(aS l).at_)):=Fx (by rw[←hR];unfold bH;rw[if_pos (.inr N)];rfl);have a9:((aS l).kind != 1)=true:=by rw[bne_iff_ne];exact N
 have bc:((cc:Int)==0)=false:=by rw[beq_eq_false_iff_ne];omega
 clear hR hE h hk hj a5 a4 ad av hq U a2 N;go_enter Tryz.func122,Tryz.ntmps122
 go_upto_region 0 with (fail)
 go_cut [] (fun wx=>wx=(w.setCell ⟨jb,1,none⟩ (FR FS (max q 0))).drew)
 case first =>
  go_region_law (first|(go_simp;go_at_call 48;refine (M.out _ (FK [] w).drew).mono ?_;rintro e w6 ⟨rfl,rfl⟩))
  all_goals
   go_wp2;go_meet;exact rfl
 subst hcut;clear c0 z0 lb lg hn hc O k0 k1 k2 Z lj f1 f2 M;have J:aa [jb] w ((w.setCell ⟨jb,1,none⟩ (FR FS (max q 0))).drew):=((FK _ _).setCell (.inl (by simp)) _).drew;have hj':aV ((w.setCell ⟨jb,1,none⟩ (FR FS (max q 0))).drew) w0.heap.size jb ⟨I,max q 0,outs,ins,cols,op,left,right,D⟩ v2 v3 v4:=HJ.out.box J ((HJ.out.blk.set 1 (FR FS (max q 0))).congr (by rfl)) rfl rfl rfl;have hp':=HP.out.box HJ.out J;have hk':=HK.out.box a1.out J;have hm:max q 0=(cc:Int):=by rw[←HQ.out,db,a3.out]
 rw[hm] at hj' hp' hk' ⊢;clear hm J HJ HP HK;obtain ⟨y0,hy⟩:∃ x,(w.setCell ⟨jb,1,none⟩ (FR FS (cc:Int))).drew=x:=⟨_,rfl⟩
 rw[hy] at hj' hp' hk' ⊢;have HJ:=Fx hj';have HP:=Fx hp';have HK:=Fx hk';have bb:y0.cell? ⟨jb,1,none⟩=some (FR FS (cc:Int)):=hj'.blk.cell 1;have lj:=hj'.blk.lt;obtain ⟨g,o,c,c0,z0,lb,lg,-,hn,hc,O,k0,k1,k2,-⟩:=hp'.open';have Z:(0:Int)<(l.length:Int):=by omega
 clear hy hj' hp' hk' hn hc O HQ;go_wp2_with fail
 refine (bw 3 y0 HP.out).mono ?_;rintro ev w9 ⟨⟨gi,rfl,hb⟩,aA⟩;exact ⟨rfl,by rw[HX.out];exact ⟨gi,rfl,hb⟩,HK.out.trans aA.of_nil⟩
theorem Dq {l:List Tk} {b jb lo:Nat} {v2 v3 v4:Value} (M code:Int) (outs ins cols:List Bs) (op:Bs) (left right:Ar) (D:Int) (w0 w:World) (hE:FB w0 lo) (a0:lo≤b) (h:Ps w b l) (hk:aa [b] w0 w) (bm:w0.heap.size≤jb) (hj:aV w w0.heap.size jb ⟨M,code,outs,ins,cols,op,left,right,D⟩ v2 v3 v4) (b1:ins.length≤1000) (b0:cols.length≤1000) (bj:l.length≤1000000) (aA:bV (aS l).text=7) (a3:(aS l).kind=1) :
  Calls Tryz.prog 122 #[FO (some ⟨b,0,none⟩),FO (some ⟨jb,0,none⟩)] w fun e w'=>gb (bH ⟨M,code,outs,ins,cols,op,left,right,D⟩ l) b w0.heap.size jb e w'∧aa [b] w0 w':=by
 obtain ⟨i0,hi,b5,b8,b3⟩:=info_parts kX;obtain ⟨R,hR⟩:∃ R,bH ⟨M,code,outs,ins,cols,op,left,right,D⟩ l=R:=⟨_,rfl⟩
 rw[hR];have HE:=Fx hE;have Z:=Fx h;have HK:=Fx hk;have U:=Fx hj;have a7:=Fx bm;have be:Hid (ins.length≤999000):=Fx (by omega);have bz:Hid (cols.length≤999000):=Fx (by omega);have bb:=Fx bj;have a4:Hid (∀ W,aa [] w W→Calls Tryz.prog 48 #[FN (some ⟨4,0,none⟩) 10 10,FM (bs (aS l).text)] W fun e W'=>e=FP (FR FS (dm (aS l).text))∧W=W'):=Fx (fun W q=>cE (aS l).text W ((hE.one a0 hk).quiet q).env);obtain ⟨q,hq⟩:∃ q,dm (aS l).text=q:=⟨_,rfl⟩
 rw[hq] at a4;have HQ:=Fx hq;obtain ⟨g,o,c,c0,z0,lb,lg,-,hn,O,a9,k0,k1,k2,-⟩:=h.open';have a5:(0:Int)<(l.length:Int):=by omega
 have f1:w.cell? ⟨jb,1,none⟩=some (FR FS code):=hj.blk.cell 1;have f2:=hj.blk.frozen 1;have lj:=hj.blk.lt;have bo:=Fx aA;have bk:Hid (nL (⟨M,7,outs,ins,cols,op,left,right,D⟩:Jb) l.tail=R):=Fx (by
  rw[←hR];unfold bH;rw[aA,if_neg (by rw[a3];decide)];rfl)
 have bl:bC [106,111,105,110] l=true:=by
  unfold bC;rw[a3,cU aA (by decide)];rfl
 have bq:=Fx bl;have bc:=Fx a3;clear hR hE h hk hj b1 b0 bj bm hq aA bl a3;go_enter Tryz.func122,Tryz.ntmps122
 go_upto_region 0 with (fail)
 go_cut [] (fun wx=>wx=(w.setCell ⟨jb,1,none⟩ (FR FS (max q 0))).drew)
 case first =>
  go_region_law (first|(go_simp;go_at_call 48;refine (a4.out _ (FK [] w).drew).mono ?_;rintro e w6 ⟨rfl,rfl⟩))
  all_goals
   go_wp2;go_meet;exact rfl
 subst hcut;clear c0 z0 lb lg hn O a9 k0 k1 k2 a5 lj f1 f2 a4;have a1:aa [jb] w ((w.setCell ⟨jb,1,none⟩ (FR FS (max q 0))).drew):=((FK _ _).setCell (.inl (by simp)) _).drew;have hj':aV ((w.setCell ⟨jb,1,none⟩ (FR FS (max q 0))).drew) w0.heap.size jb ⟨M,max q 0,outs,ins,cols,op,left,right,D⟩ v2 v3 v4:=U.out.box a1 ((U.out.blk.set 1 (FR FS (max q 0))).congr (by rfl)) rfl rfl rfl;have hp':=Z.out.box U.out a1;have hk':=HK.out.box a7.out a1;have hm:max q 0=7:=by rw[←HQ.out,db,bo.out];rfl
 rw[hm] at hj' hp' hk' ⊢;clear hm a1 U Z HK;obtain ⟨y0,hy⟩:∃ x,(w.setCell ⟨jb,1,none⟩ (FR FS 7)).drew=x:=⟨_,rfl⟩
 rw[hy] at hj' hp' hk' ⊢;have U:=Fx hj';have Z:=Fx hp';have HK:=Fx hk';have a6:y0.cell? ⟨jb,1,none⟩=some (FR FS 7):=hj'.blk.cell 1;have lj:=hj'.blk.lt;obtain ⟨g,o,c,c0,z0,lb,lg,-,hn,O,a9,k0,k1,k2,-⟩:=hp'.open';have a5:(0:Int)<(l.length:Int):=by omega
 clear hy hj' hp' hk' hn O a9 HQ;rw[bc.out] at k0;have wd:=(HE.out.one a0 HK.out).env.words 7 (by decide);have bv:y0.cell? ⟨4,7,none⟩=some (FM (bs [106,111,105,110])):=wd;have bZ:=FC _ _ bv;clear wd;go_wp2_with fail
 refine (aT (s:=[106,111,105,110]) (r:=l.tail) (by unfold aR;rw[if_pos bq.out]) y0 Z.out).mono ?_;rintro ev y1 ⟨rfl,hp,hk⟩;have HJ':=Fx (U.out.ps Z.out hk);have HK':=Fx (HK.out.trans hk);clear Z U HK c0 z0 lb lg k0 k1 k2 a5 a6 lj bv bZ;have Z:=Fx hp;have U:=HJ';have HK:=HK';clear hp hk HJ' HK';have HR:=bk;clear bk;have N:Hid (l.tail.length≤l.length):=Fx (by rw[List.length_tail];omega);obtain ⟨r0,ba⟩:∃ r0,l.tail=r0:=⟨_,rfl⟩
 rw[ba] at Z HR N;clear ba bq bc bo;have a6:y1.cell? ⟨jb,1,none⟩=some (FR FS 7):=U.out.blk.cell 1;have bX:=U.out.blk.lt;have I:=HR.out;unfold nL at I;clear HR;have HR:=Fx I;clear I;have O:=zM M 7 outs (ins) (cols) op left right D w0 y1 HE.out a0 Z.out HK.out a7.out U.out (by have:=be.out;first|omega|(simp only[Fz,FG,List.length_nil];omega)) (by have:=bz.out;first|omega|(simp only[Fz,FG,List.length_nil];omega)) (FD N.out bb.out);rcases J:xz (⟨M,7,outs,ins,cols,op,left,right,D⟩:Jb) r0 with x|⟨j2,r2⟩
 ·have I:=HR.out
  rw[J,aw] at I;have HX:=Fx I.symm;rw[J] at O;have a8:=Fx O;clear I J O;go_wp2_with fail
  refine a8.out.mono ?_;rintro ev w9 ⟨⟨gi,rfl,hb⟩,ad⟩;exact ⟨rfl,by rw[HX.out];exact ⟨gi,rfl,hb⟩,ad⟩
 have I:=HR.out;rw[J,aq] at I;try dsimp only at I
 clear HR;have HR:=Fx I;clear I;rw[J] at O;obtain ⟨a2,d2,e,br⟩:=Dp J;subst e;have av:Hid (r2.length≤l.length):=Fx (FD br N.out);have HC:=Fx O;clear J O br N;have N:=av;clear av;go_wp2_with fail
 refine HC.out.mono ?_;rintro ev y2 ⟨⟨rfl,⟨cd,b4,ca,hj⟩,hp⟩,hk⟩;clear Z U HK HC;have Z:=Fx hp;have U:=Fx hj;have HK:=Fx hk;clear hp hj hk;clear a6 bX;rcases J:aR [44] r2 with x|r3
 ·have I:=HR.out
  rw[J,aw] at I;have HX:=Fx I.symm;have HC:=Fx (cO J y2 Z.out);clear I J;go_wp2_with fail
  refine HC.out.mono ?_;rintro ev w9 ⟨⟨gi,rfl,hb⟩,ad⟩;exact ⟨rfl,by rw[HX.out];exact ⟨gi,rfl,hb⟩,HK.out.trans ad⟩
 have I:=HR.out;rw[J,aq] at I;try dsimp only at I
 clear HR;have HR:=Fx I;clear I;have HC:=Fx (aT J y2 Z.out);have av:Hid (r3.length≤l.length):=Fx (by have:=N.out;have:=aF J;omega);clear J N;have N:=av;clear av;go_wp2_with fail
 refine HC.out.mono ?_;rintro ev y3 ⟨rfl,hp,hk⟩;have HJ':=Fx (U.out.ps Z.out hk);have HK':=Fx (HK.out.trans hk);clear Z U HK HC;have Z:=Fx hp;have U:=HJ';have HK:=HK';clear hp hk HJ' HK';have O:=zM M 7 outs (ins++[a2]) (cols++[d2]) op left right D w0 y3 HE.out a0 Z.out HK.out a7.out U.out (by have:=be.out;first|omega|(simp only[Fz,FG,List.length_nil];omega)) (by have:=bz.out;first|omega|(simp only[Fz,FG,List.length_nil];omega)) (FD N.out bb.out);rcases J:xz (⟨M,7,outs,ins++[a2],cols++[d2],op,left,right,D⟩:Jb) r3 with x|⟨j4,r4⟩
 ·have I:=HR.out
  rw[J] at I;have HX:=Fx I.symm;rw[J] at O;have a8:=Fx O;clear I J O;go_wp2_with fail
  refine a8.out.mono ?_;rintro ev w9 ⟨⟨gi,rfl,hb⟩,ad⟩;exact ⟨rfl,by rw[HX.out];exact ⟨gi,rfl,hb⟩,ad⟩
 have I:=HR.out;rw[J] at I;have HX:=Fx I.symm;rw[J] at O;have HC:=Fx O;clear I J O;go_wp2_with fail
 refine HC.out.mono ?_;rintro ev y4 ⟨⟨rfl,⟨b6,b7,b9,hj⟩,hp⟩,hk⟩;go_wp2;first|go_end0|refine bodyPost_ret (results_none rfl _ _ _) rfl ?_
 exact ⟨by rw[HX.out];exact ⟨rfl,⟨_,_,_,hj⟩,hp⟩,hk⟩
theorem Dr {l:List Tk} {b jb lo:Nat} {v2 v3 v4:Value} (a5 code:Int) (outs ins cols:List Bs) (op:Bs) (left right:Ar) (O:Int) (w0 w:World) (hE:FB w0 lo) (b4:lo≤b) (h:Ps w b l) (hk:aa [b] w0 w) (b6:w0.heap.size≤jb) (hj:aV w w0.heap.size jb ⟨a5,code,outs,ins,cols,op,left,right,O⟩ v2 v3 v4) (cj:ins.length≤1000) (ci:cols.length≤1000) (b1:l.length≤1000000) (a9:bV (aS l).text=5) (be:(aS l).kind=1) :
  Calls Tryz.prog 122 #[FO (some ⟨b,0,none⟩),FO (some ⟨jb,0,none⟩)] w fun e w'=>gb (bH ⟨a5,code,outs,ins,cols,op,left,right,O⟩ l) b w0.heap.size jb e w'∧aa [b] w0 w':=by
 obtain ⟨i0,hi,ba,bc,a8⟩:=info_parts kX;obtain ⟨R,hR⟩:∃ R,bH ⟨a5,code,outs,ins,cols,op,left,right,O⟩ l=R:=⟨_,rfl⟩
 rw[hR];have HE:=Fx hE;have M:=Fx h;have HK:=Fx hk;have J:=Fx hj;have bo:=Fx b6;have a6:Hid (ins.length≤999000):=Fx (by omega);have cn:Hid (cols.length≤999000):=Fx (by omega);have cm:=Fx b1;have bj:Hid (∀ W,aa [] w W→Calls Tryz.prog 48 #[FN (some ⟨4,0,none⟩) 10 10,FM (bs (aS l).text)] W fun e W'=>e=FP (FR FS (dm (aS l).text))∧W=W'):=Fx (fun W q=>cE (aS l).text W ((hE.one b4 hk).quiet q).env);obtain ⟨q,hq⟩:∃ q,dm (aS l).text=q:=⟨_,rfl⟩
 rw[hq] at bj;have HQ:=Fx hq;obtain ⟨g,o,c,c0,z0,lb,lg,-,hn,hc,bz,k0,k1,k2,-⟩:=h.open';have bk:(0:Int)<(l.length:Int):=by omega
 have f1:w.cell? ⟨jb,1,none⟩=some (FR FS code):=hj.blk.cell 1;have f2:=hj.blk.frozen 1;have lj:=hj.blk.lt;have b7:=Fx a9;have b3:Hid (ku (⟨a5,5,outs,ins,cols,op,left,right,O⟩:Jb) l.tail=R):=Fx (by
  rw[←hR];unfold bH;rw[a9,if_neg (by rw[be];decide)];rfl)
 have b5:bC [117,110,105,111,110] l=true:=by
  unfold bC;rw[be,cU a9 (by decide)];rfl
 have b8:=Fx b5;have b0:=Fx be;clear hR hE h hk hj cj ci b1 b6 hq a9 b5 be;go_enter Tryz.func122,Tryz.ntmps122
 go_upto_region 0 with (fail)
 go_cut [] (fun wx=>wx=(w.setCell ⟨jb,1,none⟩ (FR FS (max q 0))).drew)
 case first =>
  go_region_law (first|(go_simp;go_at_call 48;refine (bj.out _ (FK [] w).drew).mono ?_;rintro e w6 ⟨rfl,rfl⟩))
  all_goals
   go_wp2;go_meet;exact rfl
 subst hcut;clear c0 z0 lb lg hn hc bz k0 k1 k2 bk lj f1 f2 bj;have bb:aa [jb] w ((w.setCell ⟨jb,1,none⟩ (FR FS (max q 0))).drew):=((FK _ _).setCell (.inl (by simp)) _).drew;have hj':aV ((w.setCell ⟨jb,1,none⟩ (FR FS (max q 0))).drew) w0.heap.size jb ⟨a5,max q 0,outs,ins,cols,op,left,right,O⟩ v2 v3 v4:=J.out.box bb ((J.out.blk.set 1 (FR FS (max q 0))).congr (by rfl)) rfl rfl rfl;have hp':=M.out.box J.out bb;have hk':=HK.out.box bo.out bb;have hm:max q 0=5:=by rw[←HQ.out,db,b7.out];rfl
 rw[hm] at hj' hp' hk' ⊢;clear hm bb J M HK;obtain ⟨y0,hy⟩:∃ x,(w.setCell ⟨jb,1,none⟩ (FR FS 5)).drew=x:=⟨_,rfl⟩
 rw[hy] at hj' hp' hk' ⊢;have J:=Fx hj';have M:=Fx hp';have HK:=Fx hk';have bl:y0.cell? ⟨jb,1,none⟩=some (FR FS 5):=hj'.blk.cell 1;have lj:=hj'.blk.lt;obtain ⟨g,o,c,c0,z0,lb,lg,-,hn,hc,bz,k0,k1,k2,-⟩:=hp'.open';have bk:(0:Int)<(l.length:Int):=by omega
 clear hy hj' hp' hk' hn hc bz HQ;rw[b0.out] at k0;have wd:=(HE.out.one b4 HK.out).env.words 5 (by decide);have ca:y0.cell? ⟨4,5,none⟩=some (FM (bs [117,110,105,111,110])):=wd;have ch:=FC _ _ ca;clear wd;go_wp2_with fail
 refine (aT (s:=[117,110,105,111,110]) (r:=l.tail) (by unfold aR;rw[if_pos b8.out]) y0 M.out).mono ?_;rintro ev y1 ⟨rfl,hp,hk⟩;have HJ':=Fx (J.out.ps M.out hk);have HK':=Fx (HK.out.trans hk);clear M J HK c0 z0 lb lg k0 k1 k2 bk bl lj ca ch;have M:=Fx hp;have J:=HJ';have HK:=HK';clear hp hk HJ' HK';have HR:=b3;clear b3;have av:Hid (l.tail.length≤l.length):=Fx (by rw[List.length_tail];omega);obtain ⟨r0,bZ⟩:∃ r0,l.tail=r0:=⟨_,rfl⟩
 rw[bZ] at M HR av;clear bZ b8 b0 b7;have bl:y1.cell? ⟨jb,1,none⟩=some (FR FS 5):=J.out.blk.cell 1;have cg:=J.out.blk.lt;have N:=HR.out;unfold ku at N;clear HR;have HR:=Fx N;clear N;go_upto_region 10 with (fail)
 obtain ⟨A2,c2,hv,-⟩:=ar J.out.o3;subst hv;have fS:y1.cell? ⟨jb,3,none⟩=some (FN A2 (ins).length c2)∧y1.frozen? ⟨jb,3,none⟩=false:=⟨J.out.blk.cell 3,J.out.blk.frozen 3⟩;have lj:=J.out.blk.lt;have ad:=Fx (show (ins).length+1≤maxLen∧((ins).length+1)*16≤140737488355328 by have:=a6.out;simp only[maxLen];first|omega|(simp only[Fz,FG,List.length_nil];omega));have a3:Hid (jb∉[b]):=Fx (by have:=J.out.blk.ty.ne M.out.ty (by decide);simpa using this);rcases hS:aQ r0 with x|⟨a2,r2⟩
 ·have N:=HR.out
  rw[hS,aw] at N;have HX:=Fx N.symm;have HC:Hid (∀ W,aa [] y1 W→Calls Tryz.prog 80 #[FO (some ⟨b,0,none⟩)] W fun e w'=>bW x e w'∧aa [b] W w'):=Fx (fun W z=>bR hS W (M.out.keep z));clear N hS;go_wp2_with fail
  go_region_law (first|(refine step_append_lies _ (by rfl) _ _ _ (by rfl) w0.heap.size 9 i0 _ 1 16 Tryz.underlying44 hi ba bc a8 rfl (by decide) (FN A2 (ins).length c2) (ins).length (strs (ins)) (by rfl) ((J.out.ps M.out D.undrew).o3.alloc _) ⟨w6.heap.size,0,none⟩ 1 1 [FM (bs [])] (by rfl) rfl (FI (heap_alloc_new _ _)) (by simp[Value.oneCell']) (by decide) ad.out.1 ad.out.2 (by have:=HK.out.size;have:=D.size;have h9:y1.drew.heap.size=y1.heap.size:=rfl;simp;omega) _ rfl ?_;intro gw cap w7 U I aA a7;obtain ⟨br,bv⟩:=aE I (aD ⟨Z,a1⟩ _) (fun e=>(aK (J.out.ps M.out D.undrew).o3 jb e).ne (J.out.ps M.out D.undrew).blk.ty (by decide) rfl))|(go_simp;go_at_call 80;refine (HC.out _ (FK [] y1).drew).mono ?_;rintro e w6 ⟨⟨gi,rfl,hb⟩,D⟩;obtain ⟨Z,a1⟩:=aI D fS a3.out;have bq:jb<w6.heap.size:=FC w6 ⟨jb,3,none⟩ Z;dsimp only;(go_loud (refine cT ‹∀ (a:Act) (w:World),wpAny _ _ _ _ _ _ a w→_› (some 64) (FM (bs [])) ⟨rfl,by rw[HX.out];exact ⟨gi,rfl,hb⟩,HK.out.trans D.undrew⟩ (fun hF=>?_)))))
  all_goals exact hF.out.elim
 have N:=HR.out;rw[hS,aq] at N;try dsimp only at N
 clear HR;have HR:=Fx N;clear N;have HC:Hid (∀ W,aa [] y1 W→Calls Tryz.prog 80 #[FO (some ⟨b,0,none⟩)] W fun e w'=>e=FP (FM (bs a2))∧Ps w' b r2∧aa [b] W w'):=Fx (fun W z=>bi hS W (M.out.keep z));have a0:Hid (r2.length≤l.length):=Fx (by have:=av.out;have:=az hS;omega);clear av;have av:=a0;clear a0;clear hS;go_cut [] (fun wx=>∃ b9,aV wx w0.heap.size jb (⟨a5,5,outs,ins++[a2],cols,op,left,right,O⟩:Jb) v2 b9 v4∧Ps wx b r2∧aa [b] w0 wx)
 case first =>
  go_region_law (first|(refine step_append_lies _ (by rfl) _ _ _ (by rfl) w0.heap.size 9 i0 _ 1 16 Tryz.underlying44 hi ba bc a8 rfl (by decide) (FN A2 (ins).length c2) (ins).length (strs (ins)) (by rfl) ((J.out.ps M.out D.undrew).o3.alloc _) ⟨w6.heap.size,0,none⟩ 1 1 [FM (bs a2)] (by rfl) rfl (FI (heap_alloc_new _ _)) (by simp[Value.oneCell']) (by decide) ad.out.1 ad.out.2 (by have:=HK.out.size;have:=D.size;have h9:y1.drew.heap.size=y1.heap.size:=rfl;simp;omega) _ rfl ?_;intro gw cap w7 U I aA a7;obtain ⟨br,bv⟩:=aE I (aD ⟨Z,a1⟩ _) (fun e=>(aK (J.out.ps M.out D.undrew).o3 jb e).ne (J.out.ps M.out D.undrew).blk.ty (by decide) rfl))|(go_simp;go_at_call 80;refine (HC.out _ (FK [] y1).drew).mono ?_;rintro e w6 ⟨rfl,bX,D⟩;obtain ⟨Z,a1⟩:=aI D fS a3.out;have bq:jb<w6.heap.size:=FC w6 ⟨jb,3,none⟩ Z))
  all_goals
   go_wp2;go_meet;have hh:=aV.app3 (J.out.ps M.out D.undrew) bX (HK.out.trans D.undrew) rfl bo.out I rfl U aA (by simp);exact ⟨_,hh.1,hh.2.1,hh.2.2⟩
 obtain ⟨b9,hj,hp,hk⟩:=hcut;obtain ⟨y2,rfl⟩:∃ y:World,y=wc:=⟨_,rfl⟩
 clear M J HK HC fS lj ad a3;have M:=Fx hp;have J:=Fx hj;have HK:=Fx hk;have bm:Hid ((ins++[a2]).length≤999000+2):=Fx (by have:=a6.out;simp only[Fz,FG,List.length_nil];omega);clear hp hj hk a6;generalize ins++[a2]=il2 at J HR bm;have a6:=bm;clear bm;clear bl cg;rcases hS:aR [44] r2 with x|r3
 ·have N:=HR.out
  rw[hS,aw] at N;have HX:=Fx N.symm;have HC:=Fx (cO hS y2 M.out);clear N hS;go_wp2_with fail
  refine HC.out.mono ?_;rintro ev w9 ⟨⟨gi,rfl,hb⟩,cd⟩;exact ⟨rfl,by rw[HX.out];exact ⟨gi,rfl,hb⟩,HK.out.trans cd⟩
 have N:=HR.out;rw[hS,aq] at N;try dsimp only at N
 clear HR;have HR:=Fx N;clear N;have HC:=Fx (aT hS y2 M.out);have a0:Hid (r3.length≤l.length):=Fx (by have:=av.out;have:=aF hS;omega);clear hS av;have av:=a0;clear a0;go_wp2_with fail
 refine HC.out.mono ?_;rintro ev y3 ⟨rfl,hp,hk⟩;have HJ':=Fx (J.out.ps M.out hk);have HK':=Fx (HK.out.trans hk);clear M J HK HC;have M:=Fx hp;have J:=HJ';have HK:=HK';clear hp hk HJ' HK';go_upto_region 12 with (fail)
 obtain ⟨A4,c4,hv,-⟩:=ar J.out.o3;subst hv;have fS:y3.cell? ⟨jb,3,none⟩=some (FN A4 (il2).length c4)∧y3.frozen? ⟨jb,3,none⟩=false:=⟨J.out.blk.cell 3,J.out.blk.frozen 3⟩;have lj:=J.out.blk.lt;have ad:=Fx (show (il2).length+1≤maxLen∧((il2).length+1)*16≤140737488355328 by have:=a6.out;simp only[maxLen];first|omega|(simp only[Fz,FG,List.length_nil];omega));have a3:Hid (jb∉[b]):=Fx (by have:=J.out.blk.ty.ne M.out.ty (by decide);simpa using this);rcases hS:aQ r3 with x|⟨a4,r4⟩
 ·have N:=HR.out
  rw[hS,aw] at N;have HX:=Fx N.symm;have HC:Hid (∀ W,aa [] y3 W→Calls Tryz.prog 80 #[FO (some ⟨b,0,none⟩)] W fun e w'=>bW x e w'∧aa [b] W w'):=Fx (fun W z=>bR hS W (M.out.keep z));clear N hS;go_wp2_with fail
  go_region_law (first|(refine step_append_lies _ (by rfl) _ _ _ (by rfl) w0.heap.size 9 i0 _ 1 16 Tryz.underlying44 hi ba bc a8 rfl (by decide) (FN A4 (il2).length c4) (il2).length (strs (il2)) (by rfl) ((J.out.ps M.out D.undrew).o3.alloc _) ⟨w6.heap.size,0,none⟩ 1 1 [FM (bs [])] (by rfl) rfl (FI (heap_alloc_new _ _)) (by simp[Value.oneCell']) (by decide) ad.out.1 ad.out.2 (by have:=HK.out.size;have:=D.size;have h9:y3.drew.heap.size=y3.heap.size:=rfl;simp;omega) _ rfl ?_;intro gw cap w7 U I aA a7;obtain ⟨br,bv⟩:=aE I (aD ⟨Z,a1⟩ _) (fun e=>(aK (J.out.ps M.out D.undrew).o3 jb e).ne (J.out.ps M.out D.undrew).blk.ty (by decide) rfl))|(go_simp;go_at_call 80;refine (HC.out _ (FK [] y3).drew).mono ?_;rintro e w6 ⟨⟨gi,rfl,hb⟩,D⟩;obtain ⟨Z,a1⟩:=aI D fS a3.out;have bq:jb<w6.heap.size:=FC w6 ⟨jb,3,none⟩ Z;dsimp only;(go_loud (refine cT ‹∀ (a:Act) (w:World),wpAny _ _ _ _ _ _ a w→_› (some 77) (FM (bs [])) ⟨rfl,by rw[HX.out];exact ⟨gi,rfl,hb⟩,HK.out.trans D.undrew⟩ (fun hF=>?_)))))
  all_goals exact hF.out.elim
 have N:=HR.out;rw[hS,aq] at N;try dsimp only at N
 clear HR;have HR:=Fx N;clear N;have HC:Hid (∀ W,aa [] y3 W→Calls Tryz.prog 80 #[FO (some ⟨b,0,none⟩)] W fun e w'=>e=FP (FM (bs a4))∧Ps w' b r4∧aa [b] W w'):=Fx (fun W z=>bi hS W (M.out.keep z));have a0:Hid (r4.length≤l.length):=Fx (by have:=av.out;have:=az hS;omega);clear av;have av:=a0;clear a0;clear hS;have HX:=Fx HR.out.symm;clear HR;go_region_law (first|(refine step_append_lies _ (by rfl) _ _ _ (by rfl) w0.heap.size 9 i0 _ 1 16 Tryz.underlying44 hi ba bc a8 rfl (by decide) (FN A4 (il2).length c4) (il2).length (strs (il2)) (by rfl) ((J.out.ps M.out D.undrew).o3.alloc _) ⟨w6.heap.size,0,none⟩ 1 1 [FM (bs a4)] (by rfl) rfl (FI (heap_alloc_new _ _)) (by simp[Value.oneCell']) (by decide) ad.out.1 ad.out.2 (by have:=HK.out.size;have:=D.size;have h9:y3.drew.heap.size=y3.heap.size:=rfl;simp;omega) _ rfl ?_;intro gw cap w7 U I aA a7;obtain ⟨br,bv⟩:=aE I (aD ⟨Z,a1⟩ _) (fun e=>(aK (J.out.ps M.out D.undrew).o3 jb e).ne (J.out.ps M.out D.undrew).blk.ty (by decide) rfl))|(go_simp;go_at_call 80;refine (HC.out _ (FK [] y3).drew).mono ?_;rintro e w6 ⟨rfl,bX,D⟩;obtain ⟨Z,a1⟩:=aI D fS a3.out;have bq:jb<w6.heap.size:=FC w6 ⟨jb,3,none⟩ Z))
 all_goals
  go_wp2;first|go_end0|refine bodyPost_ret (results_none rfl _ _ _) rfl ?_
  try (have ce:=HCL.out;subst ce)
  have hh:=aV.app3 (J.out.ps M.out D.undrew) bX (HK.out.trans D.undrew) rfl bo.out I rfl U aA (by simp);exact ⟨by rw[HX.out];exact ⟨rfl,⟨_,_,_,hh.1⟩,hh.2.1⟩,hh.2.2⟩
theorem Dw {l:List Tk} {b jb lo:Nat} {v2 v3 v4:Value} (aA code:Int) (outs ins cols:List Bs) (op:Bs) (left right:Ar) (J:Int) (w0 w:World) (hE:FB w0 lo) (b5:lo≤b) (h:Ps w b l) (hk:aa [b] w0 w) (b8:w0.heap.size≤jb) (hj:aV w w0.heap.size jb ⟨aA,code,outs,ins,cols,op,left,right,J⟩ v2 v3 v4) (cv:ins.length≤1000) (ct:cols.length≤1000) (b3:l.length≤1000000) (a8:bV (aS l).text=3) (ba:(aS l).kind=1) :
  Calls Tryz.prog 122 #[FO (some ⟨b,0,none⟩),FO (some ⟨jb,0,none⟩)] w fun e w'=>gb (bH ⟨aA,code,outs,ins,cols,op,left,right,J⟩ l) b w0.heap.size jb e w'∧aa [b] w0 w':=by
 obtain ⟨i0,hi,bZ,b6,bX⟩:=info_parts kX;obtain ⟨R,hR⟩:∃ R,bH ⟨aA,code,outs,ins,cols,op,left,right,J⟩ l=R:=⟨_,rfl⟩
 rw[hR];have HE:=Fx hE;have M:=Fx h;have U:=Fx hk;have D:=Fx hj;have bm:=Fx b8;have a9:Hid (ins.length≤999000):=Fx (by omega);have cz:Hid (cols.length≤999000):=Fx (by omega);have ce:=Fx b3;have bc:Hid (∀ W,aa [] w W→Calls Tryz.prog 48 #[FN (some ⟨4,0,none⟩) 10 10,FM (bs (aS l).text)] W fun e W'=>e=FP (FR FS (dm (aS l).text))∧W=W'):=Fx (fun W q=>cE (aS l).text W ((hE.one b5 hk).quiet q).env);obtain ⟨q,hq⟩:∃ q,dm (aS l).text=q:=⟨_,rfl⟩
 rw[hq] at bc;have HQ:=Fx hq;obtain ⟨g,o,c,c0,z0,lb,lg,-,hn,hc,bv,k0,k1,k2,-⟩:=h.open';have bj:(0:Int)<(l.length:Int):=by omega
 have f1:w.cell? ⟨jb,1,none⟩=some (FR FS code):=hj.blk.cell 1;have f2:=hj.blk.frozen 1;have lj:=hj.blk.lt;have b9:=Fx a8;have b4:Hid ((aQ l.tail >>= fun p=>j6 ⟨aA,3,outs,ins++[p.1],cols,op,left,right,J⟩ p.2)=R):=Fx (by
  rw[←hR];unfold bH;rw[a8,if_neg (by rw[ba];decide)];rfl)
 have b7:bC [112,114,111,106,101,99,116] l=true:=by
  unfold bC;rw[ba,cU a8 (by decide)];rfl
 have ca:=Fx b7;have b0:=Fx ba;clear hR hE h hk hj cv ct b3 b8 hq a8 b7 ba;go_enter Tryz.func122,Tryz.ntmps122
 go_upto_region 0 with (fail)
 go_cut [] (fun wx=>wx=(w.setCell ⟨jb,1,none⟩ (FR FS (max q 0))).drew)
 case first =>
  go_region_law (first|(go_simp;go_at_call 48;refine (bc.out _ (FK [] w).drew).mono ?_;rintro e w6 ⟨rfl,rfl⟩))
  all_goals
   go_wp2;go_meet;exact rfl
 subst hcut;clear c0 z0 lb lg hn hc bv k0 k1 k2 bj lj f1 f2 bc;have ad:aa [jb] w ((w.setCell ⟨jb,1,none⟩ (FR FS (max q 0))).drew):=((FK _ _).setCell (.inl (by simp)) _).drew;have hj':aV ((w.setCell ⟨jb,1,none⟩ (FR FS (max q 0))).drew) w0.heap.size jb ⟨aA,max q 0,outs,ins,cols,op,left,right,J⟩ v2 v3 v4:=D.out.box ad ((D.out.blk.set 1 (FR FS (max q 0))).congr (by rfl)) rfl rfl rfl;have hp':=M.out.box D.out ad;have hk':=U.out.box bm.out ad;have hm:max q 0=3:=by rw[←HQ.out,db,b9.out];rfl
 rw[hm] at hj' hp' hk' ⊢;clear hm ad D M U;obtain ⟨y0,hy⟩:∃ x,(w.setCell ⟨jb,1,none⟩ (FR FS 3)).drew=x:=⟨_,rfl⟩
 rw[hy] at hj' hp' hk' ⊢;have D:=Fx hj';have M:=Fx hp';have U:=Fx hk';have a3:y0.cell? ⟨jb,1,none⟩=some (FR FS 3):=hj'.blk.cell 1;have lj:=hj'.blk.lt;obtain ⟨g,o,c,c0,z0,lb,lg,-,hn,hc,bv,k0,k1,k2,-⟩:=hp'.open';have bj:(0:Int)<(l.length:Int):=by omega
 clear hy hj' hp' hk' hn hc bv HQ;rw[b0.out] at k0;have wd:=(HE.out.one b5 U.out).env.words 3 (by decide);have cd:y0.cell? ⟨4,3,none⟩=some (FM (bs [112,114,111,106,101,99,116])):=wd;have cq:=FC _ _ cd;clear wd;go_wp2_with fail
 refine (aT (s:=[112,114,111,106,101,99,116]) (r:=l.tail) (by unfold aR;rw[if_pos ca.out]) y0 M.out).mono ?_;rintro ev y1 ⟨rfl,hp,hk⟩;have HJ':=Fx (D.out.ps M.out hk);have HK':=Fx (U.out.trans hk);clear M D U c0 z0 lb lg k0 k1 k2 bj a3 lj cd cq;have M:=Fx hp;have D:=HJ';have U:=HK';clear hp hk HJ' HK';have Z:=b4;clear b4;have av:Hid (l.tail.length≤l.length):=Fx (by rw[List.length_tail];omega);obtain ⟨r0,bz⟩:∃ r0,l.tail=r0:=⟨_,rfl⟩
 rw[bz] at M Z av;clear bz ca b0 b9;have a3:y1.cell? ⟨jb,1,none⟩=some (FR FS 3):=D.out.blk.cell 1;have bq:=D.out.blk.lt;go_upto_region 13 with (fail)
 obtain ⟨A2,c2,hv,-⟩:=ar D.out.o3;subst hv;have fS:y1.cell? ⟨jb,3,none⟩=some (FN A2 (ins).length c2)∧y1.frozen? ⟨jb,3,none⟩=false:=⟨D.out.blk.cell 3,D.out.blk.frozen 3⟩;have lj:=D.out.blk.lt;have a1:=Fx (show (ins).length+1≤maxLen∧((ins).length+1)*16≤140737488355328 by have:=a9.out;simp only[maxLen];first|omega|(simp only[Fz,FG,List.length_nil];omega));have bk:Hid (jb∉[b]):=Fx (by have:=D.out.blk.ty.ne M.out.ty (by decide);simpa using this);rcases hS:aQ r0 with x|⟨a2,r2⟩
 ·have I:=Z.out
  rw[hS,aw] at I;have HX:=Fx I.symm;have HC:Hid (∀ W,aa [] y1 W→Calls Tryz.prog 80 #[FO (some ⟨b,0,none⟩)] W fun e w'=>bW x e w'∧aa [b] W w'):=Fx (fun W z=>bR hS W (M.out.keep z));clear I hS;go_wp2_with fail
  go_region_law (first|(refine step_append_lies _ (by rfl) _ _ _ (by rfl) w0.heap.size 9 i0 _ 1 16 Tryz.underlying44 hi bZ b6 bX rfl (by decide) (FN A2 (ins).length c2) (ins).length (strs (ins)) (by rfl) ((D.out.ps M.out N.undrew).o3.alloc _) ⟨w6.heap.size,0,none⟩ 1 1 [FM (bs [])] (by rfl) rfl (FI (heap_alloc_new _ _)) (by simp[Value.oneCell']) (by decide) a1.out.1 a1.out.2 (by have:=U.out.size;have:=N.size;have h9:y1.drew.heap.size=y1.heap.size:=rfl;simp;omega) _ rfl ?_;intro gw cap w7 a0 O bb b1;obtain ⟨cn,co⟩:=aE O (aD ⟨a6,bo⟩ _) (fun e=>(aK (D.out.ps M.out N.undrew).o3 jb e).ne (D.out.ps M.out N.undrew).blk.ty (by decide) rfl))|(go_simp;go_at_call 80;refine (HC.out _ (FK [] y1).drew).mono ?_;rintro e w6 ⟨⟨gi,rfl,hb⟩,N⟩;obtain ⟨a6,bo⟩:=aI N fS bk.out;have cj:jb<w6.heap.size:=FC w6 ⟨jb,3,none⟩ a6;dsimp only;(go_loud (refine cT ‹∀ (a:Act) (w:World),wpAny _ _ _ _ _ _ a w→_› (some 88) (FM (bs [])) ⟨rfl,by rw[HX.out];exact ⟨gi,rfl,hb⟩,U.out.trans N.undrew⟩ (fun hF=>?_)))))
  all_goals exact hF.out.elim
 have I:=Z.out;rw[hS,aq] at I;try dsimp only at I
 clear Z;have Z:=Fx I;clear I;have HC:Hid (∀ W,aa [] y1 W→Calls Tryz.prog 80 #[FO (some ⟨b,0,none⟩)] W fun e w'=>e=FP (FM (bs a2))∧Ps w' b r2∧aa [b] W w'):=Fx (fun W z=>bi hS W (M.out.keep z));have a7:Hid (r2.length≤l.length):=Fx (by have:=av.out;have:=az hS;omega);clear av;have av:=a7;clear a7;clear hS;go_cut [] (fun wx=>∃ br,aV wx w0.heap.size jb (⟨aA,3,outs,ins++[a2],cols,op,left,right,J⟩:Jb) v2 br v4∧Ps wx b r2∧aa [b] w0 wx)
 case first =>
  go_region_law (first|(refine step_append_lies _ (by rfl) _ _ _ (by rfl) w0.heap.size 9 i0 _ 1 16 Tryz.underlying44 hi bZ b6 bX rfl (by decide) (FN A2 (ins).length c2) (ins).length (strs (ins)) (by rfl) ((D.out.ps M.out N.undrew).o3.alloc _) ⟨w6.heap.size,0,none⟩ 1 1 [FM (bs a2)] (by rfl) rfl (FI (heap_alloc_new _ _)) (by simp[Value.oneCell']) (by decide) a1.out.1 a1.out.2 (by have:=U.out.size;have:=N.size;have h9:y1.drew.heap.size=y1.heap.size:=rfl;simp;omega) _ rfl ?_;intro gw cap w7 a0 O bb b1;obtain ⟨cn,co⟩:=aE O (aD ⟨a6,bo⟩ _) (fun e=>(aK (D.out.ps M.out N.undrew).o3 jb e).ne (D.out.ps M.out N.undrew).blk.ty (by decide) rfl))|(go_simp;go_at_call 80;refine (HC.out _ (FK [] y1).drew).mono ?_;rintro e w6 ⟨rfl,cu,N⟩;obtain ⟨a6,bo⟩:=aI N fS bk.out;have cj:jb<w6.heap.size:=FC w6 ⟨jb,3,none⟩ a6))
  all_goals
   go_wp2;go_meet;have hh:=aV.app3 (D.out.ps M.out N.undrew) cu (U.out.trans N.undrew) rfl bm.out O rfl a0 bb (by simp);exact ⟨_,hh.1,hh.2.1,hh.2.2⟩
 obtain ⟨br,hj,hp,hk⟩:=hcut;obtain ⟨y2,rfl⟩:∃ y:World,y=wc:=⟨_,rfl⟩
 clear M D U HC fS lj a1 bk;have M:=Fx hp;have D:=Fx hj;have U:=Fx hk;have bl:Hid ((ins++[a2]).length≤999000+2):=Fx (by have:=a9.out;simp only[Fz,FG,List.length_nil];omega);clear hp hj hk a9;generalize ins++[a2]=il2 at D Z bl;have a9:=bl;clear bl;clear a3 bq;have a3:y2.cell? ⟨jb,1,none⟩=some (FR FS 3):=D.out.blk.cell 1;have bq:=D.out.blk.lt;have I:=Z.out;clear Z;have Z:Hid (zJ (⟨aA,3,outs,il2,cols,op,left,right,J⟩:Jb) r2=R):=Fx I;clear I;have I:=Z.out;unfold zJ at I;clear Z;have Z:=Fx I;clear I;rcases hS:aR [98,121] r2 with x|r3
 ·have I:=Z.out
  rw[hS,aw] at I;have HX:=Fx I.symm;have HC:=Fx (cO hS y2 M.out);clear I hS;go_wp2_with fail
  refine HC.out.mono ?_;rintro ev w9 ⟨⟨gi,rfl,hb⟩,be⟩;exact ⟨rfl,by rw[HX.out];exact ⟨gi,rfl,hb⟩,U.out.trans be⟩
 have I:=Z.out;rw[hS,aq] at I;try dsimp only at I
 clear Z;have Z:=Fx I;clear I;have HC:=Fx (aT hS y2 M.out);have a7:Hid (r3.length≤l.length):=Fx (by have:=av.out;have:=aF hS;omega);clear hS av;have av:=a7;clear a7;go_wp2_with fail
 refine HC.out.mono ?_;rintro ev y3 ⟨rfl,hp,hk⟩;have HJ':=Fx (D.out.ps M.out hk);have HK':=Fx (U.out.trans hk);clear M D U HC;have M:=Fx hp;have D:=HJ';have U:=HK';clear hp hk HJ' HK';clear a3 bq;have hc:=lP y3 M.out (FD av.out ce.out);rcases hS:fk r3 with x|⟨a4,r4⟩
 ·have I:=Z.out
  rw[hS,aw] at I;have HX:=Fx I.symm;rw[hS] at hc;have cm:=Fx hc;clear I hS hc;go_wp2_with fail
  refine cm.out.mono ?_;rintro ev w9 ⟨⟨gi,rfl,hb⟩,be⟩;exact ⟨rfl,by rw[HX.out];exact ⟨gi,rfl,hb⟩,U.out.trans be⟩
 have I:=Z.out;rw[hS,aq] at I;try dsimp only at I
 clear Z;have Z:=Fx I;clear I;rw[hS] at hc;have HC:=Fx hc;clear hS hc;go_wp2_with fail
 refine HC.out.mono ?_;rintro ev y4 ⟨⟨v4,rfl,a5,hp⟩,hk⟩;obtain ⟨A4,c4,hv,-⟩:=ar a5;subst hv;have cg:=Fx a5;have ch:Hid (cD v2 (FN A4 a4.length c4)):=Fx (cD.new D.out.o2 (fun g hg=>(a5.lt g hg).1));have ci:Hid (cD br (FN A4 a4.length c4)):=Fx (cD.new D.out.o3 (fun g hg=>(a5.lt g hg).1));have cr:=Fx U.out.size;clear a5;have HJ':=Fx (D.out.ps M.out hk);have HK':=Fx (U.out.trans hk);clear M D U HC;have M:=Fx hp;have D:=HJ';have U:=HK';clear hp hk HJ' HK';have cy:=D.out.blk.frozen 4;have cx:y4.cell? ⟨jb,4,none⟩=some (v4):=D.out.blk.cell 4;have lj:=D.out.blk.lt;have ad:aa [jb] y4 (y4.setCell ⟨jb,4,none⟩ (FN A4 a4.length c4)):=(FK _ _).setCell (.inl (by simp)) _;have HJ':=Fx (D.out.put4 (cK cg.out cr.out) ch.out ci.out);have HP':=Fx (M.out.box D.out ad);have HK':=Fx (U.out.box bm.out ad);clear ad;have HX:=Fx Z.out.symm;clear Z;go_wp2;first|go_end0|refine bodyPost_ret (results_none rfl _ _ _) rfl ?_
 exact ⟨by rw[HX.out];exact ⟨rfl,⟨_,_,_,HJ'.out⟩,HP'.out⟩,HK'.out⟩
end
section
def j0:Jb:=⟨0,0,[],[],[],[],⟨[],zV⟩,⟨[],zV⟩,0⟩
def jb (f:Fl) (k:Nat):Jb:=f.jobs.getD k j0
def kA (f:Fl) (n:Bs):Bool:=f.ins.any fun x=>x.name==n
def kB (f:Fl) (n:Bs):Option Nat:=f.jobs.findIdx? fun j=>j.outs.contains n
def eK (f:Fl) (done:List Nat) (n:Bs):Bool:=kA f n||(match kB f n with
 | none=>false
 | some k=>done.contains k)
def bL (f:Fl) (done:List Nat) (k:Nat):Bool:=(jb f k).ins.all (eK f done)
def dJ (f:Fl) (out:List Nat):Option Nat:=(List.range f.jobs.length).find? fun i=> !out.contains i&&bL f out i
def wl (f:Fl) (out:List Nat):Option Nat:=(List.range f.jobs.length).find? fun i=> !out.contains i
def cW (f:Fl):Nat→List Nat→Except (Int×Int) (List Nat)
 | 0,out=> .ok out
 | n+1,out=>match dJ f out with
  | some k=>cW f n (out++[k])
  | none=> .error (11,(jb f ((wl f out).getD 0)).at_)
def cG (f:Fl):Except (Int×Int) (List Nat):=cW f f.jobs.length []
def bP:List (Bs×Int)→List Bs→Except (Int×Int) (List Bs)
 | [],seen=> .ok seen
 | p::l,seen=>if p.1∈seen then .error (9,p.2) else bP l (p.1::seen)
def dk (h:List Jb):List (Bs×Int):=h.flatMap fun j=>j.outs.map fun n=>(n,j.at_)
def bF (seen:List Bs):List Jb→Except (Int×Int) Unit
 | []=> .ok ()
 | j::h=>if j.ins.any (fun n=> !decide (n∈seen)) then .error (7,j.at_) else bF seen h
def cH (seen:List Bs):List Pb→List Bs→Except (Int×Int) Unit
 | [],_=> .ok ()
 | x::l,told=>if x.src∉seen then .error (7,x.at_) else if x.name∈told then .error (9,x.at_) else cH seen l (x.name::told)
def dK (f:Fl):Except (Int×Int) Unit:=do
 let s ← bP (f.ins.map fun x=>(x.name,x.at_)) []
 let s ← bP (dk f.jobs) s
 bF s f.jobs
 cH s f.outs []
abbrev Cm:=List (Bs×List Cl)
def ep (m:Cm) (n:Bs):List Cl:=(m.lookup n).getD []
def kC:List In→Cm→Except (Int×Int) Cm
 | [],m=> .ok m
 | x::l,m=>if cp x.cols then kC l ((x.name,x.cols)::m) else .error (3,x.at_)
def gN:List Bs→List (List Cl)→Cm→Cm
 | n::ns,c::cs,m=>gN ns cs ((n,c)::m)
 | _,_,m=>m
def ed (f:Fl):List Nat→Cm→Except (Int×Int) Cm
 | [],m=> .ok m
 | k::h,m=>match aL (jb f k) ((jb f k).ins.map (ep m)) with
  | .error e=> .error (e,(jb f k).at_)
  | .ok cs=>ed f h (gN (jb f k).outs cs m)
def cQ (f:Fl):Except (Int×Int) Cm:=do
 let m ← kC f.ins []
 dK f
 let l ← cG f
 ed f l m
end
end Go.Proofs.YtecpeogejjibaaaGreatDoor
