/- Tables as plain data: what may be, how it is written, how it is read. No program in sight. -/
import Derived.Test.YtodjaomghmcoiaaGreatDoorBase
import Derived.Lib.ItoaLen
import Derived.Lib.AtoiAll
namespace Go.Proofs.YtodjaomghmcoiaaGreatDoor
/-- A value; a column; a table. -/
structure Vl where
  kind : Int
  num : Int
  word : Bs
deriving DecidableEq
structure Cl where
  name : Bs
  kind : Int
deriving DecidableEq
structure Tb where
  cols : List Cl
  rows : List (List Vl)
deriving DecidableEq
def letters : Bs := [97, 98, 99, 100, 101, 102, 103, 104, 105, 106, 107, 108, 109, 110, 111, 112, 113, 114, 115, 116, 117, 118, 119, 120, 121, 122]
def lettersDigits : Bs := letters ++ [48, 49, 50, 51, 52, 53, 54, 55, 56, 57]
/-- Whether something may be called so. -/
def nameB (s : Bs) : Bool := !s.isEmpty && decide (s.length ≤ 10) && letters.contains (s.getD 0 0) && s.all (lettersDigits.contains ·)
/-- A byte that may not stand in a text. -/
def badB (b : UInt8) : Bool := decide (b.toNat < 32) || decide (126 < b.toNat) || decide (b.toNat = 39)
/-- Whether a value may be. -/
def rvB (v : Vl) : Bool :=
  if v.kind = 1 then (v.word == []) && decide (-1000000000 ≤ v.num) && decide (v.num ≤ 1000000000)
  else if v.kind = 2 then decide (v.num = 0) && decide (v.word.length ≤ 16) && !v.word.any badB
  else false
/-- Whether a value is ahead of another one. -/
def lessB (a b : Vl) : Bool := if a.kind = b.kind then (if a.kind = 1 then decide (a.num < b.num) else Op.bytesLess a.word b.word) else decide (a.kind < b.kind)
/-- Whether column i may stand there. -/
def okCol (l : List Cl) (i : Nat) : Bool := match l[i]? with
  | some c => nameB c.name && (decide (c.kind = 1) || decide (c.kind = 2)) && !((l.take i).any fun d => d.name == c.name)
  | none => true
/-- Whether columns may be. -/
def colsB (l : List Cl) : Bool := decide (1 ≤ l.length) && decide (l.length ≤ 6) && (List.range l.length).all (okCol l)
/-- Whether value i of a row may stand there; a row; a table. -/
def okAt (cs : List Cl) (r : List Vl) (i : Nat) : Bool := match r[i]?, cs[i]? with
  | some v, some c => decide (v.kind = c.kind) && rvB v
  | _, _ => true
def rowB (cs : List Cl) (r : List Vl) : Bool := decide (r.length = cs.length) && (List.range r.length).all (okAt cs r)
def rightB (t : Tb) : Bool := colsB t.cols && decide (t.rows.length ≤ 60) && t.rows.all (rowB t.cols)
/-- A kind's word. -/
def kindW (j : Nat) : Bs := match j with | 1 => [105, 110, 116] | 2 => [116, 101, 120, 116] | _ => []
/-- A value as text. -/
def valueL (v : Vl) : Bs := if v.kind = 1 then Lib.itoa v.num else [39] ++ v.word ++ [39]
def numOk (n : Int) : Prop := -9223372036854775808 ≤ n ∧ n ≤ 9223372036854775807
/-- Columns as text, the first k of them; a row; rows; a table. -/
def colsT (l : List Cl) : Nat → Bs
  | 0 => []
  | k + 1 => colsT l k ++ (if k = 0 then [] else [32]) ++ (match l[k]? with | some c => c.name ++ [58] ++ kindW c.kind.toNat | none => [])
def rowT (r : List Vl) : Nat → Bs
  | 0 => []
  | k + 1 => rowT r k ++ (if k = 0 then [] else [32]) ++ (match r[k]? with | some v => valueL v | none => [])
def rowsT (rs : List (List Vl)) : Nat → Bs
  | 0 => []
  | k + 1 => rowsT rs k ++ (match rs[k]? with | some r => rowT r r.length ++ [10] | none => [])
def printL (t : Tb) : Bs := colsT t.cols t.cols.length ++ [10] ++ rowsT t.rows t.rows.length
/-- The kind that a word names; 0 for none. -/
def kix (k : Bs) : Nat := if k = [105, 110, 116] then 1 else if k = [116, 101, 120, 116] then 2 else 0
def splitC (c : UInt8) : Bs → List Bs
  | [] => [[]]
  | b :: l => if b = c then [] :: splitC c l else match splitC c l with
    | h :: t => (b :: h) :: t
    | [] => [[b]]
def cutC (c : UInt8) : Bs → Bs × Bs
  | [] => ([], [])
  | b :: l => if b = c then ([], l) else (b :: (cutC c l).1, (cutC c l).2)
/-- What has been cut off of the first k bytes; where the next piece begins; whether a text is open. -/
def cutS (s : Bs) : Nat → List Bs × Nat × Bool
  | 0 => ([], 0, false)
  | k + 1 =>
    let r := cutS s k
    if s.getD k 0 = 39 then (r.1, r.2.1, !r.2.2)
    else if s.getD k 0 = 32 && !r.2.2 then (r.1 ++ [(s.take k).drop r.2.1], k + 1, r.2.2)
    else r
def cutL (s : Bs) : List Bs := (cutS s s.length).1 ++ [s.drop (cutS s s.length).2.1]
def quoted (s : Bs) : Bool := decide (2 ≤ s.length) && decide (s.getD 0 0 = 39) && decide (s.getD (s.length - 1) 0 = 39)
def pv0 (s : Bs) : Option Vl :=
  if quoted s then some ⟨2, 0, (s.take (s.length - 1)).drop 1⟩
  else match Lib.atoiAll s with
    | .ok n => if Lib.itoa n = s then some ⟨1, n, []⟩ else none
    | _ => none
/-- The value that a text is, or none. -/
def pvL (s : Bs) : Option Vl := match pv0 s with
  | some v => if rvB v then some v else none
  | none => none
/-- What Parse makes: a table, or an error at a line. -/
inductive PR
  | ok (t : Tb)
  | bad (e : Int) (at_ : Nat)
def colP (u : Bs) : Cl := ⟨(cutC 58 u).1, kix (cutC 58 u).2⟩
def valsP : List Bs → List Vl → Option (List Vl)
  | [], a => some a
  | p :: ps, a => match pvL p with
    | none => none
    | some v => valsP ps (a ++ [v])
def fits (cols : List Cl) (r : List Vl) : Bool := decide (r.length = cols.length) && (r.zip cols).all fun p => p.1.kind == p.2.kind
def lineL (cols : List Cl) (l : Bs) : Option (List Vl) := match valsP (cutL l) [] with
  | none => none
  | some r => if fits cols r then some r else none
def linesP (cols : List Cl) : List Bs → Nat → List (List Vl) → PR
  | [], i, _ => .bad 3 i
  | l :: rest, i, acc => if rest = [] ∧ l = [] then .ok ⟨cols, acc⟩ else match lineL cols l with
    | none => .bad 3 (i + 1)
    | some r => if acc.length = 60 then .bad 4 (i + 1) else linesP cols rest (i + 1) (acc ++ [r])
def colsP (l : Bs) : List Cl := (splitC 32 l).map colP
def parseL (s : Bs) : PR := if colsB (colsP ((splitC 10 s).headD [])) then linesP (colsP ((splitC 10 s).headD [])) (splitC 10 s).tail 0 [] else .bad 3 0
end Go.Proofs.YtodjaomghmcoiaaGreatDoor
