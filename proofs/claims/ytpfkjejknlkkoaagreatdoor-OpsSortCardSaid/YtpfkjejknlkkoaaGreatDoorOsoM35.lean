/- one at every job of one output, at tables whose array has just been made. The frame of a law: arguments opened as lists, the handle of the type error. Arguments opened: values, columns, rows. -/
import Derived.Test.YtpfkjejknlkkoaaGreatDoorOsoM31
import Derived.Test.YtpfkjejknlkkoaaGreatDoorOsoM34
import Derived.Test.YtpfkjejknlkkoaaGreatDoorOsoM1
import Derived.Test.YtpfkjejknlkkoaaGreatDoorRows
import Derived.WalkKit
import Derived.ProofKit
import Derived.OpenShut
import Derived.ShutString
import Derived.ChangeOld
import Derived.ChangeSlices
import Derived.SliceStrings
import Derived.Deep.Slices
import Derived.Carry
import Derived.Handed
import Derived.LaidLaws
import Derived.LaidHandle
import Derived.JoinedOf
import Derived.Stop.Joined
import Derived.Test.YtpfkjejknlkkoaaGreatDoorOsoM3
import Derived.Deep.Fields
import Derived.Lib.SmallJoins
set_option linter.unusedSimpArgs false
set_option linter.unusedVariables false
namespace Go.Proofs.YtpfkjejknlkkoaaGreatDoor
open Go.RowKit
attribute [local go_sem] bs_size bs_extract bs_append bs_toList
theorem oneA_any (j : Jb) (h0 : 0 ≤ j.code) (h9 : j.code < 9) (Ao : Option Addr) (co : Nat) (Ai : Option Addr) (ni ci : Nat) (Ac : Option Addr) (cc : Nat) (ins : List Tb) (AT : Option Addr) (ct : Nat) (w : World) (hE : OEnv w) (hA : Rd w [] 1 Ac j.cols.length (strs j.cols)) (hcc : j.cols.length ≤ cc) (hlc : j.cols.length ≤ 4294967296) (hI : RdTbs w AT ins) (hB : ∀ t ∈ ins, TbB t) (hll : ∀ t ∈ ins, t.cols.length ≤ 4294967) (hl : ins.length ≤ 4294967296) :
  Calls Tryz.prog 7 #[jAgg j Ao co Ai ni ci Ac cc, .slice AT ins.length ct] w fun e w' => OneOut (oneJ j ins) e w' ∧ Keeps [] w w' := by
 refine one_any j (by omega) (by omega) Ao co Ai ni ci Ac cc ins AT ct w (fun u hu => row_pos (one_right8 (by omega) hu)) (fun W q Ax hx => ?_)
 have hJ : JobIn W { j with outs := [[120]] } Ax 2 Ac cc := ⟨hx, by show 1 ≤ 2; omega, hA.keep q, hcc, by show 1 ≤ _; omega, hlc⟩
 exact doA_any { j with outs := [[120]] } Ax 2 Ai ni ci Ac cc ins AT ct W (hE.quiet q) hJ (hI.keep q) hB hll hl
theorem oneA_some {j : Jb} {ins : List Tb} {u : Tb} (h0 : 0 ≤ j.code) (h9 : j.code < 9) (hu : oneJ j ins = some u) (Ao : Option Addr) (co : Nat) (Ai : Option Addr) (ni ci : Nat) (Ac : Option Addr) (cc : Nat) (AT : Option Addr) (ct : Nat) (w : World) (hE : OEnv w) (hA : Rd w [] 1 Ac j.cols.length (strs j.cols)) (hcc : j.cols.length ≤ cc) (hlc : j.cols.length ≤ 4294967296) (hI : RdTbs w AT ins) (hB : ∀ t ∈ ins, TbB t) (hll : ∀ t ∈ ins, t.cols.length ≤ 4294967) (hl : ins.length ≤ 4294967296) :
  Calls Tryz.prog 7 #[jAgg j Ao co Ai ni ci Ac cc, .slice AT ins.length ct] w fun e w' => (∃ A1 c1 A2 c2, e = .returned (.tuple #[.agg #[.slice A1 u.cols.length c1, .slice A2 u.rows.length c2], .bool true]) ∧ TabIn w' u A1 A2 c1 c2) ∧ Keeps [] w w' := by
 have h := oneA_any j h0 h9 Ao co Ai ni ci Ac cc ins AT ct w hE hA hcc hlc hI hB hll hl
 rw [hu] at h
 refine h.mono ?_
 rintro e w' ⟨⟨A1, c1, A2, c2, he, ht⟩, hk⟩
 exact ⟨⟨A1, c1, A2, c2, he, .of_is ht (TbB.of_right' (one_right8 (by omega) hu))⟩, hk⟩
theorem oneA_none {j : Jb} {ins : List Tb} (h0 : 0 ≤ j.code) (h9 : j.code < 9) (hu : oneJ j ins = none) (Ao : Option Addr) (co : Nat) (Ai : Option Addr) (ni ci : Nat) (Ac : Option Addr) (cc : Nat) (AT : Option Addr) (ct : Nat) (w : World) (hE : OEnv w) (hA : Rd w [] 1 Ac j.cols.length (strs j.cols)) (hcc : j.cols.length ≤ cc) (hlc : j.cols.length ≤ 4294967296) (hI : RdTbs w AT ins) (hB : ∀ t ∈ ins, TbB t) (hll : ∀ t ∈ ins, t.cols.length ≤ 4294967) (hl : ins.length ≤ 4294967296) :
  Calls Tryz.prog 7 #[jAgg j Ao co Ai ni ci Ac cc, .slice AT ins.length ct] w fun e w' => e = .returned (.tuple #[.agg #[.slice none 0 0, .slice none 0 0], .bool false]) ∧ Keeps [] w w' := by
 have h := oneA_any j h0 h9 Ao co Ai ni ci Ac cc ins AT ct w hE hA hcc hlc hI hB hll hl
 rw [hu] at h
 exact h
theorem oneX {j : Jb} {t u : Tb} (h0 : 0 ≤ j.code) (h9 : j.code < 9) (hu : oneJ j [t] = some u) (Ac : Option Addr) (cc : Nat) (A B : Option Addr) (c d : Nat) (w : World) (n : Nat) (hn : w.heap.size = n) (hE : OEnv w) (hA : Rd w [] 1 Ac j.cols.length (strs j.cols)) (hcc : j.cols.length ≤ cc) (hlc : j.cols.length ≤ 4294967296) (hT : TabIn w t A B c d) (hll : t.cols.length ≤ 4294967) (Ao : Option Addr) (co : Nat) (Ai : Option Addr) (ni ci : Nat) :
  Calls Tryz.prog 7 #[jAgg j Ao co Ai ni ci Ac cc, .slice (some ⟨n, 0, none⟩) 1 1] (w.alloc (.cells #[.slice A t.cols.length c, .slice B t.rows.length d] 25)) fun e w' => (∃ A1 c1 A2 c2, e = .returned (.tuple #[.agg #[.slice A1 u.cols.length c1, .slice A2 u.rows.length c2], .bool true]) ∧ TabIn w' u A1 A2 c1 c2) ∧ Keeps [] w w' := by
 subst hn
 have hk : Keeps [] w (w.alloc (.cells #[.slice A t.cols.length c, .slice B t.rows.length d] 25)) := (Keeps.refl _ _).alloc _
 refine (oneA_some h0 h9 hu Ao co Ai ni ci Ac cc _ 1 _ (hE.quiet hk) (hA.keep hk) hcc hlc (rdTbs_blk (Blk.new _ _ _) (hT.quiet hk)) (fun x hx => by rw [List.mem_singleton] at hx; rw [hx]; exact hT.tbB) (fun x hx => by rw [List.mem_singleton] at hx; rw [hx]; exact hll) (by show 1 ≤ _; omega)).mono ?_
 rintro e w' ⟨h, hk2⟩
 exact ⟨h, hk.trans hk2⟩
theorem oneNX {j : Jb} {t : Tb} (h0 : 0 ≤ j.code) (h9 : j.code < 9) (hu : oneJ j [t] = none) (Ac : Option Addr) (cc : Nat) (A B : Option Addr) (c d : Nat) (w : World) (n : Nat) (hn : w.heap.size = n) (hE : OEnv w) (hA : Rd w [] 1 Ac j.cols.length (strs j.cols)) (hcc : j.cols.length ≤ cc) (hlc : j.cols.length ≤ 4294967296) (hT : TabIn w t A B c d) (hll : t.cols.length ≤ 4294967) (Ao : Option Addr) (co : Nat) (Ai : Option Addr) (ni ci : Nat) :
  Calls Tryz.prog 7 #[jAgg j Ao co Ai ni ci Ac cc, .slice (some ⟨n, 0, none⟩) 1 1] (w.alloc (.cells #[.slice A t.cols.length c, .slice B t.rows.length d] 25)) fun e w' => e = .returned (.tuple #[.agg #[.slice none 0 0, .slice none 0 0], .bool false]) ∧ Keeps [] w w' := by
 subst hn
 have hk : Keeps [] w (w.alloc (.cells #[.slice A t.cols.length c, .slice B t.rows.length d] 25)) := (Keeps.refl _ _).alloc _
 refine (oneA_none h0 h9 hu Ao co Ai ni ci Ac cc _ 1 _ (hE.quiet hk) (hA.keep hk) hcc hlc (rdTbs_blk (Blk.new _ _ _) (hT.quiet hk)) (fun x hx => by rw [List.mem_singleton] at hx; rw [hx]; exact hT.tbB) (fun x hx => by rw [List.mem_singleton] at hx; rw [hx]; exact hll) (by show 1 ≤ _; omega)).mono ?_
 rintro e w' ⟨h, hk2⟩
 exact ⟨h, hk.trans hk2⟩
def eX : Tb := ⟨[], []⟩
theorem eX_in (w : World) : TabIn w eX none none 0 0 := ⟨Rd.nil, Nat.le_refl _, ⟨[], rfl, Rd.nil, fun i h => by cases h⟩, Nat.le_refl _, (fun x hx => by cases hx), Nat.zero_le _, Nat.zero_le _, fun r hr => by cases hr⟩
theorem oneXU {j : Jb} {t f : Tb} {b : Bool} (h0 : 0 ≤ j.code) (h9 : j.code < 9) (hf : (oneJ j [t]).getD eX = f) (hb : (oneJ j [t]).isSome = b) (Ac : Option Addr) (cc : Nat) (A B : Option Addr) (c d : Nat) (w : World) (n : Nat) (hn : w.heap.size = n) (hE : OEnv w) (hA : Rd w [] 1 Ac j.cols.length (strs j.cols)) (hcc : j.cols.length ≤ cc) (hlc : j.cols.length ≤ 4294967296) (hT : TabIn w t A B c d) (hll : t.cols.length ≤ 4294967) (Ao : Option Addr) (co : Nat) (Ai : Option Addr) (ni ci : Nat) :
  Calls Tryz.prog 7 #[jAgg j Ao co Ai ni ci Ac cc, .slice (some ⟨n, 0, none⟩) 1 1] (w.alloc (.cells #[.slice A t.cols.length c, .slice B t.rows.length d] 25)) fun e w' => (∃ A1 c1 A2 c2, e = .returned (.tuple #[.agg #[.slice A1 f.cols.length c1, .slice A2 f.rows.length c2], .bool b]) ∧ TabIn w' f A1 A2 c1 c2) ∧ Keeps [] w w' := by
 cases ho : oneJ j [t] with
 | some u =>
  rw [ho] at hf hb
  subst hf hb
  exact oneX h0 h9 ho Ac cc A B c d w n hn hE hA hcc hlc hT hll Ao co Ai ni ci
 | none =>
  rw [ho] at hf hb
  subst hf hb
  refine (oneNX h0 h9 ho Ac cc A B c d w n hn hE hA hcc hlc hT hll Ao co Ai ni ci).mono ?_
  rintro e w' ⟨h, hk2⟩
  exact ⟨⟨none, 0, none, 0, h, eX_in _⟩, hk2⟩
theorem someX {j : Jb} {ins : List Tb} {f : Tb} {b : Bool} (hf : (oneJ j ins).getD eX = f) (hb : (oneJ j ins).isSome = b) (h : b = true) : oneJ j ins = some f := by
 cases ho : oneJ j ins with
 | some u => rw [ho] at hf; rw [← hf]; rfl
 | none => rw [ho] at hb; rw [← hb] at h; cases h
end Go.Proofs.YtpfkjejknlkkoaaGreatDoor
namespace Go.Proofs.YtpfkjejknlkkoaaGreatDoor
open Go.RowKit Go.ChangeShapes Go.WideShapes
theorem Fr.own : ownKnob Tryz.prog.godebug = none := by kernel_rfl
theorem Fr.laidOut : laidOutB Tryz.prog = true := by kernel_rfl
section
variable {P : Program} {H : Type} {enc : TypeId × Value → H} {W : World} {r : Reach} {base : Nat} {t e : TypeId} {v : Value} {d : DataW H} {p : List MemPlace}
theorem Keeps.trod {W' : World} (hl : laidOutB P = true) (hr : P.readableRec t = true) (hrow : t < P.types.size)
  (h : DataW.Trod enc P W 0 (fun _ => true) true t v d p) (hb : Keeps [] W W') (hlt : ∀ x ∈ p, x.block < W.heap.size) :
  DataW.Trod enc P W' 0 (fun b => decide (b < W.heap.size)) true t v d p :=
 WideElems.Trod_stays hl hr hrow h (fun x hx => hb.same (hlt x hx)) (fun x hx => by simpa using hlt x hx)
end
end Go.Proofs.YtpfkjejknlkkoaaGreatDoor
namespace Go.Proofs.YtpfkjejknlkkoaaGreatDoor
open Go.RowKit Go.ChangeShapes Go.WideShapes Go.Joins
open Go.Deep (oneCellFields hone_of)
theorem num_of_wf {n : Int} (h : (Lit.int .i64 n).wf = true) : numOk n := by
 have e1 : IntKind.i64.min = -9223372036854775808 := by decide
 have e2 : IntKind.i64.max = 9223372036854775807 := by decide
 have h' : (decide (IntKind.i64.min ≤ n) && decide (n ≤ IntKind.i64.max)) = true := h
 rw [e1, e2, Bool.and_eq_true, decide_eq_true_eq, decide_eq_true_eq] at h'
 exact h'
theorem flat_at {W : World} {α : Type} {size : Nat} (cells : α → List Value) (hsz : ∀ x, (cells x).length = size) : ∀ (l : List α) (a : Addr), (∀ i (hi : i < l.length) (r : Nat) (u : Value), (cells l[i])[r]? = some u → W.cell? (a.add (i * size + r)) = some u) → ∀ j u, (l.flatMap cells)[j]? = some u → W.cell? (a.add j) = some u
 | [], _, _, j, u, hu => by simp at hu
 | x :: l, a, h, j, u, hu => by
  rw [List.flatMap_cons] at hu
  by_cases hj : j < size
  ·rw [List.getElem?_append_left (by rw [hsz]; exact hj)] at hu
   have := h 0 (by simp) j u hu
   rwa [Nat.zero_mul, Nat.zero_add] at this
  ·rw [List.getElem?_append_right (by rw [hsz]; omega), hsz] at hu
   have := flat_at cells hsz l (a.add size) (fun i hi r u hr => by
    have := h (i + 1) (by simpa using hi) r u hr
    rw [add_add, show size + (i * size + r) = (i + 1) * size + r by rw [Nat.succ_mul]; omega]
    exact this) _ u hu
   rw [add_add, show size + (j - size) = j by omega] at this
   exact this
theorem rd_flat {W : World} {α : Type} {size : Nat} (hs : 0 < size) (cells : α → List Value) (hsz : ∀ x, (cells x).length = size) (l : List α) (a : Addr) (h : ∀ i (hi : i < l.length) (r : Nat) (u : Value), (cells l[i])[r]? = some u → W.cell? (a.add (i * size + r)) = some u) : Rd W [] size (some a) l.length (l.flatMap cells) := by
 refine ⟨?_, fun h0 => ⟨a, rfl, by simp, ?_, flat_at cells hsz l a h⟩⟩
 ·clear h
  induction l with
  | nil => simp
  | cons x l ih => rw [List.flatMap_cons, List.length_append, hsz, ih, List.length_cons, Nat.succ_mul]; omega
 ·have hl : 0 < (cells l[0]).length := by rw [hsz]; exact hs
  have := World.block_lt_of_cell? _ _ (h 0 h0 0 _ (List.getElem?_eq_getElem hl))
  rwa [block_add] at this
section
variable {H : Type} {enc : TypeId × Value → H} {P : Program} {w : World} {base : Nat} {spare : Nat → Bool} {held : Bool}
theorem open_fields {t e : TypeId} {fs : Array Field} {fuel : Nat} {cs : List Value} {x : DataW H × List MemPlace} (ht : P.underlying t = some (.slice e)) (he : P.underlying e = some (.struct fs))
  (hone : oneCellFields P fs = true) (hC : P.cellsOf e = fs.size) (h : DataW.trod enc P w base spare held fuel t cs = some x) :
  cs = [.slice none 0 0] ∨
  ∃ (a : Addr) (len cap : Nat), cs = [.slice (some a) len cap] ∧ len ≤ cap ∧ cap ≤ maxLen ∧
   ∀ i, i < len → ∃ (n : Nat), ∀ (j : Nat) (f : Field), fs[j]? = some f → ∃ (v : Value) (y : DataW H × List MemPlace), w.cell? (a.add (i * fs.size + j)) = some v ∧ DataW.trod enc P w base spare held n f.type [v] = some y := by
 rcases Go.Deep.open_slice ht h with ⟨h0, _⟩ | ⟨a, len, cap, m, n, D, Pl, hcs, hb, hl, hm, hmm, hx, hi⟩
 ·exact .inl h0
 ·refine .inr ⟨a, len, cap, hcs, hl, hm, fun i him => ?_⟩
  obtain ⟨cs', hc, ht'⟩ := hi i (by rw [hmm]; split <;> omega)
  rw [hC] at hc
  obtain ⟨ys, n', hn', hy, hlen, hyl, hf⟩ := DataW.trod_struct he ht'
  obtain ⟨_, hcl, hat⟩ := World.cells?_some hc
  refine ⟨n', fun j f hj => ?_⟩
  obtain ⟨ho, hk⟩ := hone_of hone j f hj
  have hjl : j < fs.size := (Array.getElem?_eq_some_iff.1 hj).1
  have hcell := hat j hjl
  have hv : cs'[j]? = some (cs'[j]'(by omega)) := List.getElem?_eq_getElem (by omega)
  have h1 := hf j f hj
  rw [ho, hk, List.drop_eq_getElem_cons (by omega)] at h1
  have hys : ys[j]? = some (ys[j]'(by omega)) := List.getElem?_eq_getElem (by omega)
  refine ⟨cs'[j]'(by omega), ys[j]'(by omega), ?_, h1.trans hys⟩
  rw [← Go.Deep.add_add, hcell, hv]
end
instance : Inhabited Cl := ⟨⟨[], 0⟩⟩
instance : Inhabited Vl := ⟨⟨0, 0, []⟩⟩
section
variable {H : Type} {enc : TypeId × Value → H} {w : World} {base : Nat} {spare : Nat → Bool} {held : Bool} {fuel : Nat} {cs : List Value} {x : DataW H × List MemPlace}
theorem open_cols (h : DataW.trod enc Tryz.prog w base spare held fuel 22 cs = some x) :
  ∃ (A : Option Addr) (c : Nat) (l : List Cl), cs = [.slice A l.length c] ∧ l.length ≤ c ∧ c ≤ maxLen ∧ Rd w [] 2 A l.length (csCells l) ∧ ∀ c ∈ l, c.name.length ≤ maxLen := by
 rcases open_fields Tryz.underlying22 Tryz.underlying39 (by kernel_rfl) (by kernel_rfl) h with rfl | ⟨a, len, cap, rfl, hl, hm, hi⟩
 ·exact ⟨none, 0, [], rfl, Nat.le_refl _, Nat.zero_le _, Rd.nil, by simp⟩
 ·have hx : ∀ i, i < len → ∃ c : Cl, w.cell? (a.add (i * 2)) = some (.string (bs c.name)) ∧ w.cell? (a.add (i * 2 + 1)) = some (.int .i64 c.kind) ∧ c.name.length ≤ maxLen := fun i hil => by
   obtain ⟨n, hf⟩ := hi i hil
   obtain ⟨v0, y0, hc0, ht0⟩ := hf 0 _ rfl
   obtain ⟨v1, y1, hc1, ht1⟩ := hf 1 _ rfl
   obtain ⟨s, e0, _, hs⟩ := DataW.trod_string Tryz.underlying9 ht0
   obtain ⟨k, e1, _, _⟩ := DataW.trod_int Tryz.underlying3 ht1
   injection e0 with e0
   injection e1 with e1
   subst e0 e1
   exact ⟨⟨s.data.toList, k⟩, hc0, hc1, hs⟩
  obtain ⟨f, hf⟩ := Go.Deep.choose_lt hx
  have hll : ((List.range len).map f).length = len := by simp
  refine ⟨some a, cap, (List.range len).map f, by rw [hll], by rw [hll]; exact hl, hm, rd_flat (by decide) cCells (fun _ => rfl) _ a (fun i hi r u hu => ?_), fun c hc => ?_⟩
  ·have hil : i < len := by rw [hll] at hi; exact hi
   rw [List.getElem_map, List.getElem_range] at hu
   obtain ⟨h1, h2, _⟩ := hf i hil
   rcases r with _ | _ | r
   ·injection hu with hu; rw [← hu]; exact h1
   ·injection hu with hu; rw [← hu]; exact h2
   ·simp [cCells] at hu
  ·obtain ⟨i, hi, rfl⟩ := List.mem_map.1 hc
   exact (hf i (List.mem_range.1 hi)).2.2
theorem open_vals (h : DataW.trod enc Tryz.prog w base spare held fuel 41 cs = some x) :
  ∃ (A : Option Addr) (c : Nat) (l : List Vl), cs = [.slice A l.length c] ∧ l.length ≤ c ∧ c ≤ maxLen ∧ Rd w [] 3 A l.length (vsCells l) ∧ ∀ v ∈ l, v.word.length ≤ maxLen ∧ numOk v.num := by
 rcases open_fields Tryz.underlying41 Tryz.underlying32 (by kernel_rfl) (by kernel_rfl) h with rfl | ⟨a, len, cap, rfl, hl, hm, hi⟩
 ·exact ⟨none, 0, [], rfl, Nat.le_refl _, Nat.zero_le _, Rd.nil, by simp⟩
 ·have hx : ∀ i, i < len → ∃ c : Vl, w.cell? (a.add (i * 3)) = some (.int .i64 c.kind) ∧ w.cell? (a.add (i * 3 + 1)) = some (.int .i64 c.num) ∧ w.cell? (a.add (i * 3 + 2)) = some (.string (bs c.word)) ∧ c.word.length ≤ maxLen ∧ numOk c.num := fun i hil => by
   obtain ⟨n, hf⟩ := hi i hil
   obtain ⟨v0, y0, hc0, ht0⟩ := hf 0 _ rfl
   obtain ⟨v1, y1, hc1, ht1⟩ := hf 1 _ rfl
   obtain ⟨v2, y2, hc2, ht2⟩ := hf 2 _ rfl
   obtain ⟨k, e0, _, _⟩ := DataW.trod_int Tryz.underlying3 ht0
   obtain ⟨m, e1, _, hm⟩ := DataW.trod_int Tryz.underlying3 ht1
   obtain ⟨s, e2, _, hs⟩ := DataW.trod_string Tryz.underlying9 ht2
   injection e0 with e0
   injection e1 with e1
   injection e2 with e2
   subst e0 e1 e2
   exact ⟨⟨k, m, s.data.toList⟩, hc0, hc1, hc2, hs, num_of_wf hm⟩
  obtain ⟨f, hf⟩ := Go.Deep.choose_lt hx
  have hll : ((List.range len).map f).length = len := by simp
  refine ⟨some a, cap, (List.range len).map f, by rw [hll], by rw [hll]; exact hl, hm, rd_flat (by decide) vCells (fun _ => rfl) _ a (fun i hi r u hu => ?_), fun c hc => ?_⟩
  ·have hil : i < len := by rw [hll] at hi; exact hi
   rw [List.getElem_map, List.getElem_range] at hu
   obtain ⟨h1, h2, h3, _⟩ := hf i hil
   rcases r with _ | _ | _ | r
   ·injection hu with hu; rw [← hu]; exact h1
   ·injection hu with hu; rw [← hu]; exact h2
   ·injection hu with hu; rw [← hu]; exact h3
   ·simp [vCells] at hu
  ·obtain ⟨i, hi, rfl⟩ := List.mem_map.1 hc
   exact (hf i (List.mem_range.1 hi)).2.2.2
theorem open_rows (h : DataW.trod enc Tryz.prog w base spare held fuel 23 cs = some x) :
  ∃ (A : Option Addr) (c : Nat) (l : List (List Vl)), cs = [.slice A l.length c] ∧ l.length ≤ c ∧ c ≤ maxLen ∧ RdRows w [] A l ∧ ∀ r ∈ l, r.length ≤ maxLen ∧ ∀ v ∈ r, v.word.length ≤ maxLen ∧ numOk v.num := by
 rcases Go.Deep.open_slice1 Tryz.underlying23 (by kernel_rfl) h with ⟨rfl, _⟩ | ⟨a, len, cap, m, n, V, D, Pl, rfl, _, hl, hcap, hlen, _, hcell⟩
 ·exact ⟨none, 0, [], rfl, Nat.le_refl _, Nat.zero_le _, ⟨[], rfl, Rd.nil, fun i h => absurd h (by simp)⟩, by simp⟩
 ·have hx : ∀ i, i < len → ∃ r : List Vl, RowIs w [] (V i) r ∧ r.length ≤ maxLen ∧ ∀ v ∈ r, v.word.length ≤ maxLen ∧ numOk v.num := fun i hi => by
   obtain ⟨A, c, l, e, h1, h2, h3, h4⟩ := open_vals (hcell i (by rw [hlen]; split <;> omega)).2
   injection e with e
   exact ⟨l, ⟨A, c, e, h1, h3⟩, by omega, h4⟩
  obtain ⟨f, hf⟩ := Go.Deep.choose_lt hx
  have hll : ((List.range len).map f).length = len := by simp
  refine ⟨some a, cap, (List.range len).map f, by rw [hll], by rw [hll]; exact hl, hcap, ⟨(List.range len).map V, by simp, ?_, fun i h h' => ?_⟩, fun r hr => ?_⟩
  ·rw [hll]
   refine ⟨by simp, fun h0 => ⟨a, rfl, by simp, ?_, fun j u hu => ?_⟩⟩
   ·have := World.block_lt_of_cell? _ _ (hcell 0 (by rw [hlen]; split <;> omega)).1
    rwa [block_add] at this
   ·rw [List.getElem?_map, Option.map_eq_some_iff] at hu
    obtain ⟨i, hi, rfl⟩ := hu
    have hj : j < len := by
     have := (List.getElem?_eq_some_iff.1 hi).1
     simpa using this
    rw [List.getElem?_range hj] at hi
    obtain rfl := Option.some.inj hi
    exact (hcell j (by rw [hlen]; split <;> omega)).1
  ·rw [List.getElem_map, List.getElem_map, List.getElem_range]
   exact (hf i (by simpa using h)).1
  ·obtain ⟨i, hi, rfl⟩ := List.mem_map.1 hr
   exact (hf i (List.mem_range.1 hi)).2
end
section
variable {H : Type} {enc : TypeId × Value → H} {w : World} {base b0 : Nat} {spare : Nat → Bool} {held : Bool} {v : Value} {d : DataW H} {p : List MemPlace} {r : Reach}
end
end Go.Proofs.YtpfkjejknlkkoaaGreatDoor
