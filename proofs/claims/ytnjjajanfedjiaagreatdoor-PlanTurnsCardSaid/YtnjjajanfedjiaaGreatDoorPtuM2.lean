/- Tables as plain data: what is written is read again, and what is read is written so. No program in sight. Jobs as plain data: which columns a job makes, and what it makes of tables. No program in sight. Flows as plain data: how a text is cut, what it is read as, how a flow is written. No program in sight. -/
import Derived.Test.YtnjjajanfedjiaaGreatDoorPtuM1
import Derived.Lib.Join
import Derived.Lib.Bytealg
import Derived.Lib.Strings
import Derived.Lib.SlicesS
set_option linter.unusedSimpArgs false
set_option linter.unusedVariables false
namespace Go.Proofs.YtnjjajanfedjiaaGreatDoor
def preH (p : Bs) : List Bs → List Bs
 | [] => [p]
 | h :: t => (p ++ h) :: t
def cutR : Bool → Bs → List Bs
 | _, [] => [[]]
 | q, b :: l => if b = 39 then preH [b] (cutR (!q) l) else if b = 32 && !q then [] :: cutR q l else preH [b] (cutR q l)
def Whole (p : Bs) : Prop := ∀ r, cutR false (p ++ r) = preH p (cutR false r)
end Go.Proofs.YtnjjajanfedjiaaGreatDoor
namespace Go.Proofs.YtnjjajanfedjiaaGreatDoor
structure Ar where
 col : Bs
 val : Vl
deriving DecidableEq
structure Jb where
 at_ : Int
 code : Int
 outs : List Bs
 ins : List Bs
 cols : List Bs
 op : Bs
 left : Ar
 right : Ar
 retry : Int
deriving DecidableEq
def zV : Vl := ⟨0, 0, []⟩
def zC : Cl := ⟨[], 0⟩
def compares : List Bs := [[61], [60, 62], [60], [60, 61], [62], [62, 61]]
def colIx (l : List Cl) (nm : Bs) : Option Nat := l.findIdx? fun c => c.name == nm
def kindI (a : Ar) (l : List Cl) : Int :=
 if a.col = [] then (if rvB a.val then a.val.kind else 0)
 else match colIx l a.col with
  | none => 0
  | some k => if a.val = zV then (l.getD k zC).kind else 0
def sizesN (code : Int) : Nat × Nat := if code = 5 ∨ code = 7 then (2, 1) else if code = 9 then (1, 2) else if code = 1 ∨ code = 2 ∨ code = 3 ∨ code = 4 ∨ code = 6 ∨ code = 8 then (1, 1) else (0, 0)
def comparedJ (j : Jb) (a : List Cl) : Except Int (List (List Cl)) :=
 if j.op ∉ compares ∨ j.left.col = [] then .error 1
 else match colIx a j.left.col with
  | none => .error 7
  | some k => if kindI j.right a ≠ (a.getD k zC).kind then .error 13 else .ok (List.replicate (if j.code = 9 then 2 else 1) a)
def setJ (j : Jb) (a : List Cl) : Except Int (List (List Cl)) :=
 if j.cols.length ≠ 1 ∨ ¬ (j.op = [43] ∨ j.op = [45] ∨ j.op = [42]) then .error 1
 else match colIx a (j.cols.headD []) with
  | none => .error 7
  | some k => if (a.getD k zC).kind ≠ 1 ∨ kindI j.left a ≠ 1 ∨ kindI j.right a ≠ 1 then .error 13 else .ok [a]
def pickGo (a : List Cl) : List Bs → List Bs → List Cl → Except Int (List Cl)
 | _, [], out => .ok out
 | seen, n :: ns, out => match colIx a n with
  | none => .error 7
  | some k => if n ∈ seen then .error 9 else pickGo a (seen ++ [n]) ns (out ++ [a.getD k zC])
def pickedJ (j : Jb) (a : List Cl) : Except Int (List (List Cl)) :=
 if j.cols.length = 0 ∨ 6 < j.cols.length then .error 1
 else match pickGo a [] j.cols [] with
  | .error e => .error e
  | .ok out => .ok [if j.code = 4 then a else out]
def groupedJ (j : Jb) (a : List Cl) : Except Int (List (List Cl)) :=
 if j.cols.length ≠ 2 ∨ ¬ (j.op = [115, 117, 109] ∨ j.op = [109, 97, 120]) then .error 1
 else match colIx a (j.cols.getD 0 []), colIx a (j.cols.getD 1 []) with
  | some k, some m => if (a.getD m zC).kind ≠ 1 then .error 13 else if k = m then .error 9 else .ok [[a.getD k zC, a.getD m zC]]
  | _, _ => .error 7
def dupC (out : List Cl) : Bool := (List.range out.length).any fun i => (colIx (out.take i) (out.getD i zC).name).isSome
def joinedJ (j : Jb) (a b : List Cl) : Except Int (List (List Cl)) :=
 if j.cols.length ≠ 2 then .error 1
 else match colIx a (j.cols.getD 0 []), colIx b (j.cols.getD 1 []) with
  | some k, some m => if (a.getD k zC).kind ≠ (b.getD m zC).kind then .error 13
   else if dupC (a ++ b.take m ++ b.drop (m + 1)) then .error 9
   else if 6 < (a ++ b.take m ++ b.drop (m + 1)).length then .error 4 else .ok [a ++ b.take m ++ b.drop (m + 1)]
  | _, _ => .error 7
def colsJ (j : Jb) (ins : List (List Cl)) : Except Int (List (List Cl)) :=
 if (sizesN j.code).1 = 0 ∨ ins.length ≠ (sizesN j.code).1 ∨ j.outs.length ≠ (sizesN j.code).2 then .error 1
 else if j.code = 1 ∨ j.code = 9 then comparedJ j (ins.getD 0 [])
 else if j.code = 2 then setJ j (ins.getD 0 [])
 else if j.code = 3 ∨ j.code = 4 then pickedJ j (ins.getD 0 [])
 else if j.code = 5 then (if ins.getD 0 [] ≠ ins.getD 1 [] then .error 13 else .ok [ins.getD 0 []])
 else if j.code = 7 then joinedJ j (ins.getD 0 []) (ins.getD 1 [])
 else if j.code = 8 then groupedJ j (ins.getD 0 [])
 else .ok [ins.getD 0 []]
end Go.Proofs.YtnjjajanfedjiaaGreatDoor
namespace Go.Proofs.YtnjjajanfedjiaaGreatDoor
structure Tk where
 kind : Int
 text : Bs
 at_ : Int
deriving DecidableEq
structure In where
 at_ : Int
 name : Bs
 cols : List Cl
deriving DecidableEq
structure Pb where
 at_ : Int
 name : Bs
 src : Bs
deriving DecidableEq
structure Fl where
 ins : List In
 jobs : List Jb
 outs : List Pb
deriving DecidableEq
def letC (c : UInt8) : Bool := decide (97 ≤ c.toNat) && decide (c.toNat ≤ 122)
def digC (c : UInt8) : Bool := decide (48 ≤ c.toNat) && decide (c.toNat ≤ 57)
def ldC (c : UInt8) : Bool := letC c || digC c
def runN (p : UInt8 → Bool) : Bs → Nat
 | [] => 0
 | c :: s => if p c then runN p s + 1 else 0
def marksL : List Bs := [[60, 62], [60, 61], [62, 61], [60], [62], [61], [43], [45], [42], [44], [59], [58], [46]]
def markN (s : Bs) : List Bs → Nat
 | [] => 0
 | m :: ms => if Lib.hasPrefix s m then m.length else markN s ms
def nextL (s : Bs) : Int × Nat :=
 if letC (s.headD 0) then (1, runN ldC s)
 else if digC (s.headD 0) then (2, runN digC s)
 else if s.headD 0 = 39 then (3, if Lib.indexByte s.tail 39 < 0 then 0 else (Lib.indexByte s.tail 39).toNat + 2)
 else (4, markN s marksL)
def lexGo : Nat → Bs → Nat → List Tk → Except (Int × Int) (List Tk)
 | 0, _, i, acc => .ok (acc ++ [⟨5, [], i⟩])
 | _ + 1, [], i, acc => .ok (acc ++ [⟨5, [], i⟩])
 | f + 1, c :: t, i, acc =>
  if c = 32 ∨ c = 10 then lexGo f t (i + 1) acc
  else if (nextL (c :: t)).2 = 0 then .error (3, i)
  else if acc.length = 400 then .error (4, i)
  else lexGo f ((c :: t).drop (nextL (c :: t)).2) (i + (nextL (c :: t)).2) (acc ++ [⟨(nextL (c :: t)).1, (c :: t).take (nextL (c :: t)).2, i⟩])
def lexL (s : Bs) : Except (Int × Int) (List Tk) := lexGo s.length s 0 []
def tk0 : Tk := ⟨5, [], 0⟩
def hdT (l : List Tk) : Tk := l.headD tk0
def failP {α : Type} (e : Int) (l : List Tk) : Except (Int × Int) α := .error (e, (hdT l).at_)
def seeP (s : Bs) (l : List Tk) : Bool := (hdT l).kind != 5 && (hdT l).text == s
def mustP (s : Bs) (l : List Tk) : Except (Int × Int) (List Tk) := if seeP s l then .ok l.tail else failP 3 l
def nameP (l : List Tk) : Except (Int × Int) (Bs × List Tk) := if (hdT l).kind ≠ 1 then failP 3 l else if 10 < (hdT l).text.length then failP 4 l else .ok ((hdT l).text, l.tail)
def namesGo : Nat → List Tk → List Bs → Except (Int × Int) ((List Bs) × List Tk)
 | 0, l, acc => .ok (acc, l)
 | n + 1, l, acc => if seeP [44] l then do
   let (s, r) ← nameP l.tail
   namesGo n r (acc ++ [s])
  else .ok (acc, l)
def namesP (l : List Tk) : Except (Int × Int) ((List Bs) × List Tk) := do
 let (s, r) ← nameP l
 namesGo r.length r [s]
def finP (r : List Tk) (v : Vl) : Except (Int × Int) (Vl × List Tk) := if rvB v then .ok (v, r.tail) else failP 4 r
def midB (s : Bs) : Bs := (s.take (s.length - 1)).drop 1
def val1P (neg : Bool) (r : List Tk) : Except (Int × Int) (Vl × List Tk) :=
 if neg && (hdT r).kind != 2 then failP 3 r
 else if (hdT r).kind = 3 then finP r ⟨2, 0, midB (hdT r).text⟩
 else if (hdT r).kind = 2 then match Lib.atoiAll (hdT r).text with
  | .ok n => finP r ⟨1, if neg then -n else n, []⟩
  | _ => failP 4 r
 else failP 3 r
def valueP (l : List Tk) : Except (Int × Int) (Vl × List Tk) := if seeP [45] l then val1P true l.tail else val1P false l
def argP (l : List Tk) : Except (Int × Int) (Ar × List Tk) := if (hdT l).kind = 1 then do
  let (s, r) ← nameP l
  .ok (⟨s, zV⟩, r)
 else do
  let (v, r) ← valueP l
  .ok (⟨[], v⟩, r)
def seenI (l : List Tk) : List Bs → Option Nat
 | [] => none
 | m :: ms => if seeP m l then some 0 else (seenI l ms).map (· + 1)
def oneP (ms : List Bs) (l : List Tk) : Except (Int × Int) (Bs × List Tk) := match seenI l ms with
 | none => failP 3 l
 | some k => .ok (ms.getD k [], l.tail)
def colOne (l : List Tk) : Except (Int × Int) (Cl × List Tk) := do
 let (s, r) ← nameP l
 let (k, r) ← oneP [[105, 110, 116], [116, 101, 120, 116]] r
 .ok (⟨s, if k = [116, 101, 120, 116] then 2 else 1⟩, r)
def colsGo : Nat → List Tk → List Cl → Except (Int × Int) ((List Cl) × List Tk)
 | 0, l, acc => .ok (acc, l)
 | n + 1, l, acc => do
  let (c, r) ← colOne l
  if seeP [44] r then colsGo n r.tail (acc ++ [c]) else .ok (acc ++ [c], r)
def inputP (l : List Tk) : Except (Int × Int) (In × List Tk) := do
 let r ← mustP [105, 110] l
 let (nm, r) ← nameP r
 let r ← mustP [58] r
 let (cs, r) ← colsGo r.length r []
 let r ← mustP [59] r
 .ok (⟨(hdT l).at_, nm, cs⟩, r)
def cmpL : List Bs := [[60, 62], [60, 61], [62, 61], [60], [62], [61]]
def whereP (j : Jb) (l : List Tk) : Except (Int × Int) (Jb × List Tk) := do
 let r ← mustP [119, 104, 101, 114, 101] l
 let (s, r) ← nameP r
 let (o, r) ← oneP cmpL r
 let (a, r) ← argP r
 .ok ({ j with left := ⟨s, zV⟩, op := o, right := a }, r)
def ofP (j : Jb) (l : List Tk) : Except (Int × Int) (Jb × List Tk) := do
 let (a, r) ← nameP l
 let r ← mustP [46] r
 let (b, r) ← nameP r
 .ok ({ j with ins := j.ins ++ [a], cols := j.cols ++ [b] }, r)
def wordsL : List Bs := [[], [102, 105, 108, 116, 101, 114], [115, 101, 116], [112, 114, 111, 106, 101, 99, 116], [115, 111, 114, 116], [117, 110, 105, 111, 110], [100, 105, 115, 116, 105, 110, 99, 116], [106, 111, 105, 110], [103, 114, 111, 117, 112], [115, 112, 108, 105, 116]]
def wordW (c : Nat) : Bs := wordsL.getD c []
def wordFrom (s : Bs) : List Bs → Nat → Nat
 | [], _ => 0
 | m :: ms, i => if m = s then i else wordFrom s ms (i + 1)
def wordIx (s : Bs) : Nat := wordFrom s wordsL 0
def setP (j : Jb) (l : List Tk) : Except (Int × Int) (Jb × List Tk) := do
 let r ← mustP [58] l
 let (s, r) ← nameP r
 let r ← mustP [61] r
 let (a, r) ← argP r
 let (o, r) ← oneP [[43], [45], [42]] r
 let (b, r) ← argP r
 .ok ({ j with cols := [s], left := a, op := o, right := b }, r)
def byP (j : Jb) (l : List Tk) : Except (Int × Int) (Jb × List Tk) := do
 let r ← mustP [98, 121] l
 let (ns, r) ← namesP r
 .ok ({ j with cols := ns }, r)
def groupP (j : Jb) (l : List Tk) : Except (Int × Int) (Jb × List Tk) := do
 let r ← mustP [98, 121] l
 let (a, r) ← nameP r
 let (o, r) ← oneP [[115, 117, 109], [109, 97, 120]] r
 let (b, r) ← nameP r
 .ok ({ j with cols := [a, b], op := o }, r)
def joinP (j : Jb) (l : List Tk) : Except (Int × Int) (Jb × List Tk) := do
 let (j, r) ← ofP j l
 let r ← mustP [44] r
 ofP j r
def unionP (j : Jb) (l : List Tk) : Except (Int × Int) (Jb × List Tk) := do
 let (a, r) ← nameP l
 let r ← mustP [44] r
 let (b, r) ← nameP r
 .ok ({ j with ins := j.ins ++ [a] ++ [b] }, r)
def restP (j : Jb) (l : List Tk) : Except (Int × Int) (Jb × List Tk) :=
 if j.code = 1 ∨ j.code = 9 then whereP j l
 else if j.code = 2 then setP j l
 else if j.code = 3 ∨ j.code = 4 then byP j l
 else if j.code = 8 then groupP j l
 else .ok (j, l)
def bodyP (j : Jb) (l : List Tk) : Except (Int × Int) (Jb × List Tk) :=
 if wordIx (hdT l).text = 0 ∨ (hdT l).kind ≠ 1 then failP 3 l
 else if wordIx (hdT l).text = 7 then joinP { j with code := (wordIx (hdT l).text : Int) } l.tail
 else if wordIx (hdT l).text = 5 then unionP { j with code := (wordIx (hdT l).text : Int) } l.tail
 else do
  let (a, r) ← nameP l.tail
  restP { j with code := (wordIx (hdT l).text : Int), ins := j.ins ++ [a] } r
def retryP (l : List Tk) : Except (Int × Int) (Int × List Tk) :=
 if seeP [114, 101, 116, 114, 121] l then
  if (hdT l.tail).kind ≠ 2 then failP 3 l.tail
  else match Lib.atoiAll (hdT l.tail).text with
   | .ok n => if 5 < n then failP 4 l.tail else .ok (n, l.tail.tail)
   | _ => failP 4 l.tail
 else .ok (0, l)
def job0 (at_ : Int) (outs : List Bs) (retry : Int) : Jb := ⟨at_, 0, outs, [], [], [], ⟨[], zV⟩, ⟨[], zV⟩, retry⟩
def jobP (l : List Tk) : Except (Int × Int) (Jb × List Tk) := do
 let r ← mustP [106, 111, 98] l
 let (os, r) ← namesP r
 let (n, r) ← retryP r
 let r ← mustP [61] r
 let (j, r) ← bodyP (job0 (hdT l).at_ os n) r
 let r ← mustP [59] r
 .ok (j, r)
def outP (l : List Tk) : Except (Int × Int) (Pb × List Tk) := do
 let r ← mustP [111, 117, 116] l
 let (a, r) ← nameP r
 let r ← mustP [61] r
 let (b, r) ← nameP r
 let r ← mustP [59] r
 .ok (⟨(hdT l).at_, a, b⟩, r)
def manyP {α : Type} (w : Bs) (one : List Tk → Except (Int × Int) (α × List Tk)) : Nat → List Tk → List α → Except (Int × Int) ((List α) × List Tk)
 | 0, l, acc => .ok (acc, l)
 | n + 1, l, acc => if seeP w l then (if acc.length = 16 then failP 4 l else do
   let (x, r) ← one l
   manyP w one n r (acc ++ [x]))
  else .ok (acc, l)
def flowP (l : List Tk) : Except (Int × Int) (Fl × List Tk) := do
 let (a, r) ← manyP [105, 110] inputP l.length l []
 let (b, r) ← manyP [106, 111, 98] jobP r.length r []
 let (c, r) ← manyP [111, 117, 116] outP r.length r []
 .ok (⟨a, b, c⟩, r)
def parseT (l : List Tk) : Except (Int × Int) Fl := do
 let (f, r) ← flowP l
 if (hdT r).kind ≠ 5 then failP 3 r else .ok f
def parseF (s : Bs) : Except (Int × Int) Fl := do
 let l ← lexL s
 parseT l
end Go.Proofs.YtnjjajanfedjiaaGreatDoor
