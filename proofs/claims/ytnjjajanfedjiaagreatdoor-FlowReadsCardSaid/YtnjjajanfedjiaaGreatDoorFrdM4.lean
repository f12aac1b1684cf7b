/- A text of pieces, each a token and the blanks behind it, is cut into these tokens: plain. A flow's pieces: its tokens, each with the blanks behind it, as it is written: plain. The parser's must and name. -/
import Derived.Test.YtnjjajanfedjiaaGreatDoorFrdM3
import Derived.Test.YtnjjajanfedjiaaGreatDoorFrdM1
set_option linter.unusedSimpArgs false
set_option linter.unusedVariables false
namespace Go.Proofs.YtnjjajanfedjiaaGreatDoor
abbrev Kt := Int × Bs
abbrev Pc := Kt × Bs
def kt (t : Tk) : Kt := (t.kind, t.text)
theorem nextL_cons (c : UInt8) (t : Bs) : nextL (c :: t) = if letC c then (1, runN ldC (c :: t)) else if digC c then (2, runN digC (c :: t)) else if c = 39 then (3, if Lib.indexByte t 39 < 0 then 0 else (Lib.indexByte t 39).toNat + 2) else (4, markN (c :: t) marksL) := rfl
theorem lexGo_cons (f : Nat) (c : UInt8) (t : Bs) (i : Nat) (acc : List Tk) : lexGo (f + 1) (c :: t) i acc = if c = 32 ∨ c = 10 then lexGo f t (i + 1) acc
  else if (nextL (c :: t)).2 = 0 then .error (3, (i : Int))
  else if acc.length = 400 then .error (4, (i : Int))
  else lexGo f ((c :: t).drop (nextL (c :: t)).2) (i + (nextL (c :: t)).2) (acc ++ [⟨(nextL (c :: t)).1, (c :: t).take (nextL (c :: t)).2, (i : Int)⟩]) := rfl
end Go.Proofs.YtnjjajanfedjiaaGreatDoor
namespace Go.Proofs.YtnjjajanfedjiaaGreatDoor
def valPc (v : Vl) (e : Bs) : List Pc :=
 if v.kind = 1 then (if v.num < 0 then [((4, [45]), []), ((2, Lib.itoa (-v.num)), e)] else [((2, Lib.itoa v.num), e)])
 else [((3, 39 :: (v.word ++ [39])), e)]
def argPc (a : Ar) (e : Bs) : List Pc := if a.col = [] then valPc a.val e else [((1, a.col), e)]
def namesPc : List Bs → Bs → List Pc
 | [], _ => []
 | [a], e => [((1, a), e)]
 | a :: b :: l, e => ((1, a), []) :: ((4, [44]), [32]) :: namesPc (b :: l) e
def colsPc : List Cl → List Pc
 | [] => []
 | [c] => [((1, c.name), [32]), ((1, kindW c.kind.toNat), [])]
 | c :: d :: l => ((1, c.name), [32]) :: ((1, kindW c.kind.toNat), []) :: ((4, [44]), [32]) :: colsPc (d :: l)
def inPc (x : In) : List Pc := ((1, [105, 110]), [32]) :: ((1, x.name), []) :: ((4, [58]), [32]) :: (colsPc x.cols ++ [((4, [59]), [10])])
def outPc (x : Pb) : List Pc := [((1, [111, 117, 116]), [32]), ((1, x.name), [32]), ((4, [61]), [32]), ((1, x.src), []), ((4, [59]), [10])]
def bodyPc (j : Jb) : List Pc :=
 if j.code = 7 then [((1, wordW 7), [32]), ((1, j.ins.getD 0 []), []), ((4, [46]), []), ((1, j.cols.getD 0 []), []), ((4, [44]), [32]), ((1, j.ins.getD 1 []), []), ((4, [46]), []), ((1, j.cols.getD 1 []), [])]
 else if j.code = 5 then [((1, wordW 5), [32]), ((1, j.ins.getD 0 []), []), ((4, [44]), [32]), ((1, j.ins.getD 1 []), [])]
 else if j.code = 6 then [((1, wordW 6), [32]), ((1, j.ins.getD 0 []), [])]
 else if j.code = 2 then ((1, wordW 2), [32]) :: ((1, j.ins.getD 0 []), []) :: ((4, [58]), [32]) :: ((1, j.cols.getD 0 []), [32]) :: ((4, [61]), [32]) :: (argPc j.left [32] ++ ((4, j.op), [32]) :: argPc j.right [])
 else ((1, wordW j.code.toNat), [32]) :: ((1, j.ins.getD 0 []), [32]) ::
  (if j.code = 1 ∨ j.code = 9 then ((1, [119, 104, 101, 114, 101]), [32]) :: ((1, j.left.col), [32]) :: ((4, j.op), [32]) :: argPc j.right []
  else if j.code = 8 then [((1, [98, 121]), [32]), ((1, j.cols.getD 0 []), [32]), ((1, j.op), [32]), ((1, j.cols.getD 1 []), [])]
  else ((1, [98, 121]), [32]) :: namesPc j.cols [])
def retryPc (n : Int) : List Pc := if 0 < n then [((1, [114, 101, 116, 114, 121]), [32]), ((2, Lib.itoa n), [32])] else []
def jobPc (j : Jb) : List Pc := ((1, [106, 111, 98]), [32]) :: (namesPc j.outs [32] ++ (retryPc j.retry ++ ((4, [61]), [32]) :: (bodyPc j ++ [((4, [59]), [10])])))
def flPc (f : Fl) : List Pc := f.ins.flatMap inPc ++ f.jobs.flatMap jobPc ++ f.outs.flatMap outPc
end Go.Proofs.YtnjjajanfedjiaaGreatDoor
namespace Go.Proofs.YtnjjajanfedjiaaGreatDoor
open Go.RowKit Go.BigFrame
attribute [local go_sem] bs_size bs_extract bs_append bs_toList
theorem mustP_ok {s : Bs} {l r : List Tk} (h : mustP s l = .ok r) : seeP s l = true ∧ r = l.tail := by
 unfold mustP at h
 split at h
 ·rename_i h1
  exact ⟨h1, (Except.ok.inj h).symm⟩
 ·cases h
theorem mustP_err {s : Bs} {l : List Tk} {x : Int × Int} (h : mustP s l = .error x) : seeP s l = false ∧ x = (3, (hdT l).at_) := by
 unfold mustP at h
 split at h
 ·cases h
 ·rename_i h1
  exact ⟨by simpa using h1, (Except.error.inj h).symm⟩
set_option maxHeartbeats 1000000 in
theorem must_yes {s : Bs} {l r : List Tk} {b : Nat} (hm : mustP s l = .ok r) (w : World) (h : Ps w b l) :
  Calls Tryz.prog 77 #[.pointer (some ⟨b, 0, none⟩), .string (bs s)] w fun e w' => e = .returned (.tuple #[]) ∧ Ps w' b r ∧ Keeps [b] w w' := by
 obtain ⟨h1, rfl⟩ := mustP_ok hm
 have HS := take_any s w h
 rw [h1, if_pos rfl] at HS
 have HT := Lib.hid HS
 clear h hm h1 HS
 go_enter Tryz.func77, Tryz.ntmps77
 go_wp2_with fail
 refine HT.out.mono ?_
 rintro ev w1 ⟨rfl, hp, hk⟩
 go_wp2
 go_end0
 exact ⟨rfl, hp, hk⟩
set_option maxHeartbeats 1000000 in
theorem must_no {s : Bs} {l : List Tk} {b : Nat} {x : Int × Int} (hm : mustP s l = .error x) (w : World) (h : Ps w b l) :
  Calls Tryz.prog 77 #[.pointer (some ⟨b, 0, none⟩), .string (bs s)] w fun e w' => Thrown x e w' ∧ Keeps [b] w w' := by
 obtain ⟨h1, rfl⟩ := mustP_err hm
 have HS := take_any s w h
 rw [h1, if_neg (by simp)] at HS
 have HT := Lib.hid HS
 clear h hm h1 HS
 go_enter Tryz.func77, Tryz.ntmps77
 go_wp2_with fail
 refine HT.out.mono ?_
 rintro ev w1 ⟨rfl, hp, hk⟩
 have HP := Lib.hid hp
 clear hp
 go_wp2_with fail
 refine (fail_any' 3 w1 HP.out).mono ?_
 rintro ev w2 ⟨⟨gi, rfl, hb⟩, hk2⟩
 exact ⟨rfl, ⟨gi, rfl, hb⟩, hk.trans hk2.of_nil⟩
theorem nameP_ok {l r : List Tk} {s : Bs} (h : nameP l = .ok (s, r)) : (hdT l).kind = 1 ∧ (hdT l).text.length ≤ 10 ∧ s = (hdT l).text ∧ r = l.tail := by
 unfold nameP at h
 split at h
 ·cases h
 ·rename_i h1
  split at h
  ·cases h
  ·rename_i h2
   injection h with h
   injection h with h3 h4
   exact ⟨by simpa using h1, by omega, h3.symm, h4.symm⟩
theorem nameP_err {l : List Tk} {x : Int × Int} (h : nameP l = .error x) : ((hdT l).kind ≠ 1 ∧ x = (3, (hdT l).at_)) ∨ ((hdT l).kind = 1 ∧ 10 < (hdT l).text.length ∧ x = (4, (hdT l).at_)) := by
 unfold nameP at h
 split at h
 ·rename_i h1
  exact .inl ⟨h1, (Except.error.inj h).symm⟩
 ·rename_i h1
  split at h
  ·rename_i h2
   exact .inr ⟨by simpa using h1, h2, (Except.error.inj h).symm⟩
  ·cases h
theorem Ps.more {W : World} {b : Nat} {l : List Tk} (h : Ps W b l) (hk : (hdT l).kind ≠ 5) : 1 < l.length := by
 have := (h.endT.tail hk).pos
 rw [List.length_tail] at this
 omega
set_option maxHeartbeats 1000000 in
theorem name_yes {s : Bs} {l r : List Tk} {b : Nat} (hm : nameP l = .ok (s, r)) (w : World) (h : Ps w b l) :
  Calls Tryz.prog 78 #[.pointer (some ⟨b, 0, none⟩)] w fun e w' => e = .returned (.string (bs s)) ∧ Ps w' b r ∧ Keeps [b] w w' := by
 obtain ⟨h1, h2, rfl, rfl⟩ := nameP_ok hm
 have hk5 : (hdT l).kind ≠ 5 := by rw [h1]; decide
 have h3 := h.more hk5
 have HP := Lib.hid h
 obtain ⟨g, o, c, c0, z0, lb, lg, -, hn, hc, hc2, k0, k1, k2, -⟩ := h.open'
 rw [h1] at k0
 have hn2 : (0 : Int) < (l.length : Int) := by omega
 have hn3 : (1 : Int) ≤ (l.length : Int) := by omega
 have h4 : (1 : Int) < (c : Int) := by omega
 have h5 : ¬ (10 : Int) < ((hdT l).text.length : Int) := by omega
 have HT := Lib.hid (fun n a d => @Ps.step w b g o c l h c0 hk5 n a d)
 clear h hm h1 hk5
 go_enter Tryz.func78, Tryz.ntmps78
 go_wp2
 go_ret
 have hst := HT.out (l.length - 1) ⟨g, o + 3, none⟩ (c - 1) rfl rfl rfl
 exact ⟨rfl, hst.1.keep ((Keeps.refl _ _).alloc _), hst.2.alloc _⟩
set_option maxHeartbeats 1000000 in
theorem name_no {l : List Tk} {b : Nat} {x : Int × Int} (hm : nameP l = .error x) (w : World) (h : Ps w b l) :
  Calls Tryz.prog 78 #[.pointer (some ⟨b, 0, none⟩)] w fun e w' => Thrown x e w' ∧ Keeps [b] w w' := by
 have HP := Lib.hid h
 obtain ⟨g, o, c, c0, z0, lb, lg, -, hn, hc, hc2, k0, k1, k2, hl⟩ := h.open'
 have hn2 : (0 : Int) < (l.length : Int) := by omega
 rcases nameP_err hm with ⟨h1, rfl⟩ | ⟨h1, h2, rfl⟩
 ·have h1' : ((hdT l).kind != 1) = true := by rw [bne_iff_ne]; exact h1
  clear h hm h1
  go_enter Tryz.func78, Tryz.ntmps78
  go_wp2_with fail
  refine (fail_any' 3 _ (HP.out.keep ((Keeps.refl _ _).alloc _))).mono ?_
  rintro ev w2 ⟨⟨gi, rfl, hb⟩, hk2⟩
  exact ⟨rfl, ⟨gi, rfl, hb⟩, (((Keeps.refl _ _).alloc _).trans hk2).of_nil⟩
 ·rw [h1] at k0
  have h2' : (10 : Int) < ((hdT l).text.length : Int) := by omega
  clear h hm h1 h2
  go_enter Tryz.func78, Tryz.ntmps78
  go_wp2_with fail
  refine (fail_any' 4 _ (HP.out.keep ((Keeps.refl _ _).alloc _))).mono ?_
  rintro ev w2 ⟨⟨gi, rfl, hb⟩, hk2⟩
  exact ⟨rfl, ⟨gi, rfl, hb⟩, (((Keeps.refl _ _).alloc _).trans hk2).of_nil⟩
end Go.Proofs.YtnjjajanfedjiaaGreatDoor
