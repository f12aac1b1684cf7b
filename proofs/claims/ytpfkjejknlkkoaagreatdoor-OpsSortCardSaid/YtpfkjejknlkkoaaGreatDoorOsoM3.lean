/- Jobs as plain data: which columns a job makes, and what it makes of tables. No program in sight. Tables as plain data, and what they are in memory. -/
import Derived.Test.YtpfkjejknlkkoaaGreatDoorOsoM2
import Derived.Test.YtpfkjejknlkkoaaGreatDoorProg
import Derived.Test.YtpfkjejknlkkoaaGreatDoorOsoM1
set_option linter.unusedSimpArgs false
set_option linter.unusedVariables false
namespace Go.Proofs.YtpfkjejknlkkoaaGreatDoor
structure Ar where
 col : Bs
 val : Vl
deriving DecidableEq
structure Jb where
 at_ : Int
 code : Int
 outs : List Bs
 ins : List Bs
 cols : List Bs
 op : Bs
 left : Ar
 right : Ar
 retry : Int
deriving DecidableEq
def zV : Vl := ⟨0, 0, []⟩
def zC : Cl := ⟨[], 0⟩
def compares : List Bs := [[61], [60, 62], [60], [60, 61], [62], [62, 61]]
def holdsB (a : Vl) (op : Bs) (b : Vl) : Bool :=
 if op = [61] then !lessB a b && !lessB b a
 else if op = [60, 62] then lessB a b || lessB b a
 else if op = [60] then lessB a b
 else if op = [60, 61] then !lessB b a
 else if op = [62] then lessB b a
 else !lessB a b
def colIx (l : List Cl) (nm : Bs) : Option Nat := l.findIdx? fun c => c.name == nm
def kindI (a : Ar) (l : List Cl) : Int :=
 if a.col = [] then (if rvB a.val then a.val.kind else 0)
 else match colIx l a.col with
  | none => 0
  | some k => if a.val = zV then (l.getD k zC).kind else 0
def argV (a : Ar) (l : List Cl) (r : List Vl) : Vl :=
 if a.col = [] then a.val else match colIx l a.col with
  | none => zV
  | some k => r.getD k zV
def sizesN (code : Int) : Nat × Nat := if code = 5 ∨ code = 7 then (2, 1) else if code = 9 then (1, 2) else if code = 1 ∨ code = 2 ∨ code = 3 ∨ code = 4 ∨ code = 6 ∨ code = 8 then (1, 1) else (0, 0)
def comparedJ (j : Jb) (a : List Cl) : Except Int (List (List Cl)) :=
 if j.op ∉ compares ∨ j.left.col = [] then .error 1
 else match colIx a j.left.col with
  | none => .error 7
  | some k => if kindI j.right a ≠ (a.getD k zC).kind then .error 13 else .ok (List.replicate (if j.code = 9 then 2 else 1) a)
def setJ (j : Jb) (a : List Cl) : Except Int (List (List Cl)) :=
 if j.cols.length ≠ 1 ∨ ¬ (j.op = [43] ∨ j.op = [45] ∨ j.op = [42]) then .error 1
 else match colIx a (j.cols.headD []) with
  | none => .error 7
  | some k => if (a.getD k zC).kind ≠ 1 ∨ kindI j.left a ≠ 1 ∨ kindI j.right a ≠ 1 then .error 13 else .ok [a]
def pickGo (a : List Cl) : List Bs → List Bs → List Cl → Except Int (List Cl)
 | _, [], out => .ok out
 | seen, n :: ns, out => match colIx a n with
  | none => .error 7
  | some k => if n ∈ seen then .error 9 else pickGo a (seen ++ [n]) ns (out ++ [a.getD k zC])
def pickedJ (j : Jb) (a : List Cl) : Except Int (List (List Cl)) :=
 if j.cols.length = 0 ∨ 6 < j.cols.length then .error 1
 else match pickGo a [] j.cols [] with
  | .error e => .error e
  | .ok out => .ok [if j.code = 4 then a else out]
def groupedJ (j : Jb) (a : List Cl) : Except Int (List (List Cl)) :=
 if j.cols.length ≠ 2 ∨ ¬ (j.op = [115, 117, 109] ∨ j.op = [109, 97, 120]) then .error 1
 else match colIx a (j.cols.getD 0 []), colIx a (j.cols.getD 1 []) with
  | some k, some m => if (a.getD m zC).kind ≠ 1 then .error 13 else if k = m then .error 9 else .ok [[a.getD k zC, a.getD m zC]]
  | _, _ => .error 7
def dupC (out : List Cl) : Bool := (List.range out.length).any fun i => (colIx (out.take i) (out.getD i zC).name).isSome
def joinedJ (j : Jb) (a b : List Cl) : Except Int (List (List Cl)) :=
 if j.cols.length ≠ 2 then .error 1
 else match colIx a (j.cols.getD 0 []), colIx b (j.cols.getD 1 []) with
  | some k, some m => if (a.getD k zC).kind ≠ (b.getD m zC).kind then .error 13
   else if dupC (a ++ b.take m ++ b.drop (m + 1)) then .error 9
   else if 6 < (a ++ b.take m ++ b.drop (m + 1)).length then .error 4 else .ok [a ++ b.take m ++ b.drop (m + 1)]
  | _, _ => .error 7
def colsJ (j : Jb) (ins : List (List Cl)) : Except Int (List (List Cl)) :=
 if (sizesN j.code).1 = 0 ∨ ins.length ≠ (sizesN j.code).1 ∨ j.outs.length ≠ (sizesN j.code).2 then .error 1
 else if j.code = 1 ∨ j.code = 9 then comparedJ j (ins.getD 0 [])
 else if j.code = 2 then setJ j (ins.getD 0 [])
 else if j.code = 3 ∨ j.code = 4 then pickedJ j (ins.getD 0 [])
 else if j.code = 5 then (if ins.getD 0 [] ≠ ins.getD 1 [] then .error 13 else .ok [ins.getD 0 []])
 else if j.code = 7 then joinedJ j (ins.getD 0 []) (ins.getD 1 [])
 else if j.code = 8 then groupedJ j (ins.getD 0 [])
 else .ok [ins.getD 0 []]
def keepsJ (j : Jb) (a : Tb) (r : List Vl) : Bool := holdsB (argV j.left a.cols r) j.op (argV j.right a.cols r)
def setN (op : Bs) (x y : Int) : Int := if op = [43] then x + y else if op = [45] then x - y else x * y
def changeRow (j : Jb) (a : Tb) (r : List Vl) : Option (List Vl) :=
 let n := setN j.op (argV j.left a.cols r).num (argV j.right a.cols r).num
 if 1000000000 < n ∨ n < -1000000000 then none
 else match colIx a.cols (j.cols.headD []) with
  | none => none
  | some k => some (r.set k ⟨(r.getD k zV).kind, n, (r.getD k zV).word⟩)
def changeGo (j : Jb) (a : Tb) : List (List Vl) → List (List Vl) → Option (List (List Vl))
 | [], out => some out
 | r :: rs, out => match changeRow j a r with
  | none => none
  | some x => changeGo j a rs (out ++ [x])
def pickRow (j : Jb) (a : Tb) (r : List Vl) : List Vl := j.cols.map fun n => match colIx a.cols n with
 | none => zV
 | some k => r.getD k zV
def distinctGo : List (List Vl) → List Bs → List (List Vl) → List (List Vl)
 | [], _, out => out
 | r :: rs, seen, out => if rowText r ∈ seen then distinctGo rs seen out else distinctGo rs (rowText r :: seen) (out ++ [r])
def ixOf (a : List Cl) (n : Bs) : Nat := (colIx a n).getD 0
def sortK (a : Tb) (ns : List Bs) : List (List Vl) := stS (leK (ns.map (ixOf a.cols))) a.rows
def pairsJ (k m : Nat) (a b : List (List Vl)) : List (List Vl) := a.flatMap fun x => (b.filter fun y => decide (x.getD k zV = y.getD m zV)).map fun y => x ++ y.take m ++ y.drop (m + 1)
def sumOp : Bs := [115, 117, 109]
def grpAdd (op : Bs) (v w : Vl) : Vl := ⟨v.kind, if op = sumOp then v.num + w.num else max v.num w.num, v.word⟩
def grpStep (op : Bs) (k m : Nat) (acc : List (Vl × Vl)) (r : List Vl) : List (Vl × Vl) := match acc.getLast? with
 | none => acc ++ [(r.getD k zV, r.getD m zV)]
 | some g => if g.1 = r.getD k zV then acc.dropLast ++ [(g.1, grpAdd op g.2 (r.getD m zV))] else acc ++ [(r.getD k zV, r.getD m zV)]
def groupsJ (op : Bs) (k m : Nat) (rs : List (List Vl)) : List (Vl × Vl) := rs.foldl (grpStep op k m) []
def grpRows (g : List (Vl × Vl)) : List (List Vl) := g.map fun p => [p.1, p.2]
def madeO (j : Jb) (ins : List Tb) (out : List (List Cl)) : Except Int (List (List (List Vl))) :=
 let a := ins.getD 0 ⟨[], []⟩
 if j.code = 1 ∨ j.code = 9 then .ok ([a.rows.filter (keepsJ j a), a.rows.filter fun r => !keepsJ j a r].take out.length)
 else if j.code = 2 then (match changeGo j a a.rows [] with
  | none => .error 2
  | some l => .ok [l])
 else if j.code = 3 then .ok [a.rows.map (pickRow j a)]
 else if j.code = 5 then .ok [a.rows ++ (ins.getD 1 ⟨[], []⟩).rows]
 else .ok [distinctGo a.rows [] []]
def madeJ (j : Jb) (ins : List Tb) (out : List (List Cl)) : Except Int (List (List (List Vl))) :=
 let a := ins.getD 0 ⟨[], []⟩
 let b := ins.getD 1 ⟨[], []⟩
 if j.code = 4 then .ok [sortK a j.cols]
 else if j.code = 7 then .ok [pairsJ (ixOf a.cols (j.cols.getD 0 [])) (ixOf b.cols (j.cols.getD 1 [])) a.rows b.rows]
 else if j.code = 8 then
  let g := groupsJ j.op (ixOf a.cols (j.cols.getD 0 [])) (ixOf a.cols (j.cols.getD 1 [])) (sortK a [j.cols.getD 0 []])
  if g.any fun p => !rvB p.2 then .error 2 else .ok [grpRows g]
 else madeO j ins out
theorem madeJ_of {j : Jb} {ins : List Tb} {out : List (List Cl)} (h4 : j.code ≠ 4) (h7 : j.code ≠ 7) (h8 : j.code ≠ 8) : madeJ j ins out = madeO j ins out := by
 unfold madeJ
 simp only
 rw [if_neg h4, if_neg h7, if_neg h8]
def tabsJ : List (List Cl) → List (List (List Vl)) → Except Int (List Tb)
 | c :: cs, r :: rs => if 60 < r.length then .error 12 else match tabsJ cs rs with
  | .error e => .error e
  | .ok l => .ok (⟨c, r⟩ :: l)
 | _, _ => .ok []
def doJ (j : Jb) (ins : List Tb) : Except Int (List Tb) :=
 if ins.any fun t => !rightB t then .error 1
 else match colsJ j (ins.map (·.cols)) with
  | .error e => .error e
  | .ok out => match madeJ j ins out with
   | .error e => .error e
   | .ok rows => tabsJ out rows
def oneJ (j : Jb) (l : List Tb) : Option Tb := match doJ { j with outs := [[120], [121]].take (1 + (j.code / 9).toNat) } l with
 | .error _ => none
 | .ok out => if out.length = ([[120], [121]].take (1 + (j.code / 9).toNat) : List Bs).length then out.head? else none
end Go.Proofs.YtpfkjejknlkkoaaGreatDoor
namespace Go.Proofs.YtpfkjejknlkkoaaGreatDoor
open Go.RowKit
def vCells (v : Vl) : List Value := [.int .i64 v.kind, .int .i64 v.num, .string (bs v.word)]
def cCells (c : Cl) : List Value := [.string (bs c.name), .int .i64 c.kind]
def vAgg (v : Vl) : Value := .agg #[.int .i64 v.kind, .int .i64 v.num, .string (bs v.word)]
def cAgg (c : Cl) : Value := .agg #[.string (bs c.name), .int .i64 c.kind]
def vsCells (l : List Vl) : List Value := l.flatMap vCells
def csCells (l : List Cl) : List Value := l.flatMap cCells
theorem vsCells_length (l : List Vl) : (vsCells l).length = l.length * 3 := by
 induction l with
 | nil => rfl
 | cons p l ih => simp [vsCells, vCells] at ih ⊢; omega
theorem csCells_length (l : List Cl) : (csCells l).length = l.length * 2 := by
 induction l with
 | nil => rfl
 | cons p l ih => simp [csCells, cCells] at ih ⊢; omega
theorem vsCells_append (l m : List Vl) : vsCells (l ++ m) = vsCells l ++ vsCells m := by simp [vsCells]
theorem csCells_append (l m : List Cl) : csCells (l ++ m) = csCells l ++ csCells m := by simp [csCells]
theorem vsCells_at (l : List Vl) (k : Nat) (h : k < l.length) : (vsCells l)[k * 3]? = some (.int .i64 l[k].kind) ∧ (vsCells l)[k * 3 + 1]? = some (.int .i64 l[k].num) ∧ (vsCells l)[k * 3 + 2]? = some (.string (bs l[k].word)) := by
 induction l generalizing k with
 | nil => simp at h
 | cons p l ih =>
  rcases k with _ | k
  ·simp [vsCells, vCells]
  ·have := ih k (by simpa using h)
   simpa [vsCells, vCells, Nat.succ_mul] using this
theorem csCells_at (l : List Cl) (k : Nat) (h : k < l.length) : (csCells l)[k * 2]? = some (.string (bs l[k].name)) ∧ (csCells l)[k * 2 + 1]? = some (.int .i64 l[k].kind) := by
 induction l generalizing k with
 | nil => simp at h
 | cons p l ih =>
  rcases k with _ | k
  ·simp [csCells, cCells]
  ·have := ih k (by simpa using h)
   simpa [csCells, cCells, Nat.succ_mul] using this
def RowIs (w : World) (L : List Nat) (u : Value) (r : List Vl) : Prop := ∃ A c, u = .slice A r.length c ∧ r.length ≤ c ∧ Rd w L 3 A r.length (vsCells r)
def RdRows (w : World) (L : List Nat) (A : Option Addr) (rs : List (List Vl)) : Prop :=
 ∃ us : List Value, us.length = rs.length ∧ Rd w L 1 A rs.length us ∧ ∀ i (h : i < us.length) (h' : i < rs.length), RowIs w L us[i] rs[i]
section
variable {w w' : World} {L L' : List Nat} {A : Option Addr} {rs : List (List Vl)} {u : Value} {r : List Vl}
theorem RowIs.keep (h : RowIs w L u r) (hk : Keeps L w w') : RowIs w' L u r := by
 obtain ⟨A, c, e, hc, h⟩ := h
 exact ⟨A, c, e, hc, h.keep hk⟩
theorem RdRows.keep (h : RdRows w L A rs) (hk : Keeps L w w') : RdRows w' L A rs := by
 obtain ⟨us, h1, h2, h3⟩ := h
 exact ⟨us, h1, h2.keep hk, fun i a b => (h3 i a b).keep hk⟩
end
end Go.Proofs.YtpfkjejknlkkoaaGreatDoor
