/- A text of pieces, each a token and the blanks behind it, is cut into these tokens: plain. A flow's pieces: its tokens, each with the blanks behind it, as it is written: plain. A flow's own tokens are read as that flow: plain. -/
import Derived.Test.YtnjjajanfedjiaaGreatDoorPtuM16
import Derived.Test.YtnjjajanfedjiaaGreatDoorPtuM2
import Derived.Test.YtnjjajanfedjiaaGreatDoorPtuM12
set_option linter.unusedSimpArgs false
set_option linter.unusedVariables false
namespace Go.Proofs.YtnjjajanfedjiaaGreatDoor
abbrev Kt := Int × Bs
abbrev Pc := Kt × Bs
def kt (t : Tk) : Kt := (t.kind, t.text)
theorem nextL_cons (c : UInt8) (t : Bs) : nextL (c :: t) = if letC c then (1, runN ldC (c :: t)) else if digC c then (2, runN digC (c :: t)) else if c = 39 then (3, if Lib.indexByte t 39 < 0 then 0 else (Lib.indexByte t 39).toNat + 2) else (4, markN (c :: t) marksL) := rfl
theorem lexGo_cons (f : Nat) (c : UInt8) (t : Bs) (i : Nat) (acc : List Tk) : lexGo (f + 1) (c :: t) i acc = if c = 32 ∨ c = 10 then lexGo f t (i + 1) acc
  else if (nextL (c :: t)).2 = 0 then .error (3, (i : Int))
  else if acc.length = 400 then .error (4, (i : Int))
  else lexGo f ((c :: t).drop (nextL (c :: t)).2) (i + (nextL (c :: t)).2) (acc ++ [⟨(nextL (c :: t)).1, (c :: t).take (nextL (c :: t)).2, (i : Int)⟩]) := rfl
end Go.Proofs.YtnjjajanfedjiaaGreatDoor
namespace Go.Proofs.YtnjjajanfedjiaaGreatDoor
def valPc (v : Vl) (e : Bs) : List Pc :=
 if v.kind = 1 then (if v.num < 0 then [((4, [45]), []), ((2, Lib.itoa (-v.num)), e)] else [((2, Lib.itoa v.num), e)])
 else [((3, 39 :: (v.word ++ [39])), e)]
def argPc (a : Ar) (e : Bs) : List Pc := if a.col = [] then valPc a.val e else [((1, a.col), e)]
def namesPc : List Bs → Bs → List Pc
 | [], _ => []
 | [a], e => [((1, a), e)]
 | a :: b :: l, e => ((1, a), []) :: ((4, [44]), [32]) :: namesPc (b :: l) e
def colsPc : List Cl → List Pc
 | [] => []
 | [c] => [((1, c.name), [32]), ((1, kindW c.kind.toNat), [])]
 | c :: d :: l => ((1, c.name), [32]) :: ((1, kindW c.kind.toNat), []) :: ((4, [44]), [32]) :: colsPc (d :: l)
def inPc (x : In) : List Pc := ((1, [105, 110]), [32]) :: ((1, x.name), []) :: ((4, [58]), [32]) :: (colsPc x.cols ++ [((4, [59]), [10])])
def outPc (x : Pb) : List Pc := [((1, [111, 117, 116]), [32]), ((1, x.name), [32]), ((4, [61]), [32]), ((1, x.src), []), ((4, [59]), [10])]
def bodyPc (j : Jb) : List Pc :=
 if j.code = 7 then [((1, wordW 7), [32]), ((1, j.ins.getD 0 []), []), ((4, [46]), []), ((1, j.cols.getD 0 []), []), ((4, [44]), [32]), ((1, j.ins.getD 1 []), []), ((4, [46]), []), ((1, j.cols.getD 1 []), [])]
 else if j.code = 5 then [((1, wordW 5), [32]), ((1, j.ins.getD 0 []), []), ((4, [44]), [32]), ((1, j.ins.getD 1 []), [])]
 else if j.code = 6 then [((1, wordW 6), [32]), ((1, j.ins.getD 0 []), [])]
 else if j.code = 2 then ((1, wordW 2), [32]) :: ((1, j.ins.getD 0 []), []) :: ((4, [58]), [32]) :: ((1, j.cols.getD 0 []), [32]) :: ((4, [61]), [32]) :: (argPc j.left [32] ++ ((4, j.op), [32]) :: argPc j.right [])
 else ((1, wordW j.code.toNat), [32]) :: ((1, j.ins.getD 0 []), [32]) ::
  (if j.code = 1 ∨ j.code = 9 then ((1, [119, 104, 101, 114, 101]), [32]) :: ((1, j.left.col), [32]) :: ((4, j.op), [32]) :: argPc j.right []
  else if j.code = 8 then [((1, [98, 121]), [32]), ((1, j.cols.getD 0 []), [32]), ((1, j.op), [32]), ((1, j.cols.getD 1 []), [])]
  else ((1, [98, 121]), [32]) :: namesPc j.cols [])
def retryPc (n : Int) : List Pc := if 0 < n then [((1, [114, 101, 116, 114, 121]), [32]), ((2, Lib.itoa n), [32])] else []
def jobPc (j : Jb) : List Pc := ((1, [106, 111, 98]), [32]) :: (namesPc j.outs [32] ++ (retryPc j.retry ++ ((4, [61]), [32]) :: (bodyPc j ++ [((4, [59]), [10])])))
def flPc (f : Fl) : List Pc := f.ins.flatMap inPc ++ f.jobs.flatMap jobPc ++ f.outs.flatMap outPc
end Go.Proofs.YtnjjajanfedjiaaGreatDoor
namespace Go.Proofs.YtnjjajanfedjiaaGreatDoor
def Mt (m : List Tk) (l : List Pc) : Prop := m.map kt = l.map Prod.fst
theorem Mt.nil {m : List Tk} (h : Mt m []) : m = [] := by
 unfold Mt at h
 simpa using h
theorem Mt.cons {m : List Tk} {p : Pc} {l : List Pc} (h : Mt m (p :: l)) : ∃ t r, m = t :: r ∧ kt t = p.1 ∧ Mt r l := by
 unfold Mt at h
 cases m with
 | nil => cases h
 | cons t r =>
  injection h with h1 h2
  exact ⟨t, r, rfl, h1, h2⟩
theorem k25 : (2 : Int) ≠ 5 := by decide
end Go.Proofs.YtnjjajanfedjiaaGreatDoor
