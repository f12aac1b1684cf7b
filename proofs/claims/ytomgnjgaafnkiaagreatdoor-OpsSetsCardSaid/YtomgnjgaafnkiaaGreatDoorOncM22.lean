/- The frame of a law: arguments opened as lists, the handle of the type error. Arguments opened: values, columns, rows. Tables opened. -/
import Derived.Test.YtomgnjgaafnkiaaGreatDoorOncM1
import Derived.Test.YtomgnjgaafnkiaaGreatDoorRows
import Derived.WalkKit
import Derived.ProofKit
import Derived.OpenShut
import Derived.ShutString
import Derived.ChangeOld
import Derived.ChangeSlices
import Derived.SliceStrings
import Derived.Deep.Slices
import Derived.Carry
import Derived.Handed
import Derived.LaidLaws
import Derived.LaidHandle
import Derived.JoinedOf
import Derived.Stop.Joined
import Derived.Test.YtomgnjgaafnkiaaGreatDoorOncM2
import Derived.Deep.Fields
import Derived.Lib.SmallJoins
import Derived.Test.YtomgnjgaafnkiaaGreatDoorOncM9
import Derived.Test.YtomgnjgaafnkiaaGreatDoorOncM11
namespace Go.Proofs.YtomgnjgaafnkiaaGreatDoor
open Go.RowKit Go.ChangeShapes Go.WideShapes
theorem Fr.own : ownKnob Tryz.prog.godebug = none := by kernel_rfl
theorem Fr.laidOut : laidOutB Tryz.prog = true := by kernel_rfl
section
variable {P : Program} {H : Type} {enc : TypeId × Value → H} {W : World} {r : Reach} {base : Nat} {t e : TypeId} {v : Value} {d : DataW H} {p : List MemPlace}
theorem open_strs (ht : P.underlying t = some (.slice e)) (he : P.underlying e = some .string) (hc : P.cellsOf e = 1)
    (hok : Value.okWide P W r base t v) (h : DataW.Trod enc P W 0 (fun _ => true) true t v d p) :
    ∃ (a : Option Addr) (c : Nat) (l : List Bs), v = .slice a l.length c ∧ Rd W [] 1 a l.length (l.map fun s => .string (bs s)) ∧ l.length ≤ maxLen ∧ ∀ s ∈ l, s.length ≤ maxLen := by
  obtain ⟨a, n, c, rfl⟩ := okWide_slice ht hok
  obtain ⟨m, hm⟩ := h
  rcases open_strings ht he hc hm with ⟨hcs, _⟩ | ⟨x, len, cap, ss, hcs, _, hl, hcap, hlen, _, hcell, hw⟩
  · simp [Value.cells] at hcs
    obtain ⟨rfl, rfl, rfl⟩ := hcs
    exact ⟨none, 0, [], rfl, Rd.nil, Nat.zero_le _, fun _ h => by cases h⟩
  · simp [Value.cells] at hcs
    obtain ⟨rfl, rfl, rfl⟩ := hcs
    have hlen' : ss.length = c := by simpa using hlen
    have hll : ((ss.take n).map fun s => s.data.toList).length = n := by rw [List.length_map, List.length_take]; omega
    refine ⟨some x, c, (ss.take n).map fun s => s.data.toList, by rw [hll], ⟨by rw [List.length_map, Nat.mul_one], fun hn => ?_⟩, by rw [hll]; omega, fun s hs => ?_⟩
    · rw [hll] at hn
      refine ⟨x, rfl, by simp, ?_, fun j u hu => ?_⟩
      · have := World.block_lt_of_cell? _ _ (hcell 0 (by omega))
        rwa [block_add] at this
      · rw [List.map_map, List.getElem?_map, Option.map_eq_some_iff] at hu
        obtain ⟨s, hs, rfl⟩ := hu
        rw [List.getElem?_take] at hs
        split at hs
        · rw [hcell j (by omega), List.getD_eq_getElem?_getD, hs]; rfl
        · cases hs
    · obtain ⟨q, hq, rfl⟩ := List.mem_map.1 hs
      have := hw q (List.mem_of_mem_take hq)
      exact this

theorem open_nums {k : IntKind} (ht : P.underlying t = some (.slice e)) (he : P.underlying e = some (.int k)) (hc : P.cellsOf e = 1)
    (hok : Value.okWide P W r base t v) (h : DataW.Trod enc P W 0 (fun _ => true) true t v d p) :
    ∃ (a : Option Addr) (c : Nat) (l : List Int), v = .slice a l.length c ∧ Rd W [] 1 a l.length (l.map (Value.int k)) ∧ l.length ≤ maxLen ∧ ∀ n ∈ l, (Lit.int k n).wf = true := by
  obtain ⟨a, n, c, rfl⟩ := okWide_slice ht hok
  obtain ⟨m, hm⟩ := h
  rcases open_ints ht he hc hm with ⟨hcs, _⟩ | ⟨x, len, cap, ss, hcs, _, hl, hcap, hlen, _, hcell, hw⟩
  · simp [Value.cells] at hcs
    obtain ⟨rfl, rfl, rfl⟩ := hcs
    exact ⟨none, 0, [], rfl, Rd.nil, Nat.zero_le _, fun _ h => by cases h⟩
  · simp [Value.cells] at hcs
    obtain ⟨rfl, rfl, rfl⟩ := hcs
    have hlen' : ss.length = c := by simpa using hlen
    have hll : (ss.take n).length = n := by rw [List.length_take]; omega
    refine ⟨some x, c, ss.take n, by rw [hll], ⟨by rw [List.length_map, Nat.mul_one], fun hn => ?_⟩, by rw [hll]; omega, fun s hs => hw s (List.mem_of_mem_take hs)⟩
    rw [hll] at hn
    refine ⟨x, rfl, by simp, ?_, fun j u hu => ?_⟩
    · have := World.block_lt_of_cell? _ _ (hcell 0 (by omega))
      rwa [block_add] at this
    · rw [List.getElem?_map, Option.map_eq_some_iff] at hu
      obtain ⟨s, hs, rfl⟩ := hu
      rw [List.getElem?_take] at hs
      split at hs
      · rw [hcell j (by omega), List.getD_eq_getElem?_getD, hs]; rfl
      · cases hs

/-- A Boolean cell's value. -/
def isTrue : Value → Bool | .bool b => b | _ => false
theorem open_flags (ht : P.underlying t = some (.slice e)) (he : P.underlying e = some .bool) (hc : P.cellsOf e = 1)
    (hok : Value.okWide P W r base t v) (h : DataW.Trod enc P W 0 (fun _ => true) true t v d p) :
    ∃ (a : Option Addr) (c : Nat) (l : List Bool), v = .slice a l.length c ∧ Rd W [] 1 a l.length (l.map Value.bool) ∧ l.length ≤ maxLen := by
  obtain ⟨a, n, c, rfl⟩ := okWide_slice ht hok
  obtain ⟨m, hm⟩ := h
  rcases Go.Deep.open_slice1 ht hc hm with ⟨hcs, _⟩ | ⟨x, len, cap, m', n', V, D, Pl, hcs, _, hl, hcap, hlen, _, hcell⟩
  · simp [Value.cells] at hcs
    obtain ⟨rfl, rfl, rfl⟩ := hcs
    exact ⟨none, 0, [], rfl, Rd.nil, Nat.zero_le _⟩
  · simp [Value.cells] at hcs
    obtain ⟨rfl, rfl, rfl⟩ := hcs
    have hlen' : m' = c := by simpa using hlen
    have hb : ∀ i, i < m' → ∃ b, V i = .bool b := fun i hi => by
      obtain ⟨b, hb, _⟩ := DataW.trod_bool he (hcell i hi).2
      exact ⟨b, by simpa using hb⟩
    have hll : ((List.range n).map fun i => isTrue (V i)).length = n := by simp
    refine ⟨some x, c, (List.range n).map fun i => isTrue (V i), by rw [hll], ⟨by rw [List.length_map, Nat.mul_one], fun hn => ?_⟩, by rw [hll]; omega⟩
    rw [hll] at hn
    refine ⟨x, rfl, by simp, ?_, fun j u hu => ?_⟩
    · have h0 : W.cell? (x.add 0) = some (V 0) := (hcell 0 (by omega)).1
      have := World.block_lt_of_cell? _ _ h0
      rwa [block_add] at this
    · rw [List.map_map, List.getElem?_map, Option.map_eq_some_iff] at hu
      obtain ⟨s, hs, rfl⟩ := hu
      have hj : j < n := by
        have := (List.getElem?_eq_some_iff.1 hs).1
        simpa using this
      rw [List.getElem?_range hj] at hs
      obtain rfl := Option.some.inj hs
      obtain ⟨b, hb⟩ := hb j (by omega)
      have hj' : W.cell? (x.add j) = some (V j) := (hcell j (by omega)).1
      rw [hj']
      show some (V j) = some (.bool (isTrue (V j)))
      rw [hb]
      rfl
/-- An argument reads as it did. -/
theorem Keeps.trod {W' : World} (hl : laidOutB P = true) (hr : P.readableRec t = true) (hrow : t < P.types.size)
    (h : DataW.Trod enc P W 0 (fun _ => true) true t v d p) (hb : Keeps [] W W') (hlt : ∀ x ∈ p, x.block < W.heap.size) :
    DataW.Trod enc P W' 0 (fun b => decide (b < W.heap.size)) true t v d p :=
  WideElems.Trod_stays hl hr hrow h (fun x hx => hb.same (hlt x hx)) (fun x hx => by simpa using hlt x hx)
end
end Go.Proofs.YtomgnjgaafnkiaaGreatDoor
namespace Go.Proofs.YtomgnjgaafnkiaaGreatDoor
open Go.RowKit Go.ChangeShapes Go.WideShapes Go.Joins
open Go.Deep (oneCellFields hone_of)
theorem num_of_wf {n : Int} (h : (Lit.int .i64 n).wf = true) : numOk n := by
  have e1 : IntKind.i64.min = -9223372036854775808 := by decide
  have e2 : IntKind.i64.max = 9223372036854775807 := by decide
  have h' : (decide (IntKind.i64.min ≤ n) && decide (n ≤ IntKind.i64.max)) = true := h
  rw [e1, e2, Bool.and_eq_true, decide_eq_true_eq, decide_eq_true_eq] at h'
  exact h'
/-- Cells laid one element behind another. -/
theorem flat_at {W : World} {α : Type} {size : Nat} (cells : α → List Value) (hsz : ∀ x, (cells x).length = size) : ∀ (l : List α) (a : Addr), (∀ i (hi : i < l.length) (r : Nat) (u : Value), (cells l[i])[r]? = some u → W.cell? (a.add (i * size + r)) = some u) → ∀ j u, (l.flatMap cells)[j]? = some u → W.cell? (a.add j) = some u
  | [], _, _, j, u, hu => by simp at hu
  | x :: l, a, h, j, u, hu => by
    rw [List.flatMap_cons] at hu
    by_cases hj : j < size
    · rw [List.getElem?_append_left (by rw [hsz]; exact hj)] at hu
      have := h 0 (by simp) j u hu
      rwa [Nat.zero_mul, Nat.zero_add] at this
    · rw [List.getElem?_append_right (by rw [hsz]; omega), hsz] at hu
      have := flat_at cells hsz l (a.add size) (fun i hi r u hr => by
        have := h (i + 1) (by simpa using hi) r u hr
        rw [add_add, show size + (i * size + r) = (i + 1) * size + r by rw [Nat.succ_mul]; omega]
        exact this) _ u hu
      rw [add_add, show size + (j - size) = j by omega] at this
      exact this
theorem rd_flat {W : World} {α : Type} {size : Nat} (hs : 0 < size) (cells : α → List Value) (hsz : ∀ x, (cells x).length = size) (l : List α) (a : Addr) (h : ∀ i (hi : i < l.length) (r : Nat) (u : Value), (cells l[i])[r]? = some u → W.cell? (a.add (i * size + r)) = some u) : Rd W [] size (some a) l.length (l.flatMap cells) := by
  refine ⟨?_, fun h0 => ⟨a, rfl, by simp, ?_, flat_at cells hsz l a h⟩⟩
  · clear h
    induction l with
    | nil => simp
    | cons x l ih => rw [List.flatMap_cons, List.length_append, hsz, ih, List.length_cons, Nat.succ_mul]; omega
  · have hl : 0 < (cells l[0]).length := by rw [hsz]; exact hs
    have := World.block_lt_of_cell? _ _ (h 0 h0 0 _ (List.getElem?_eq_getElem hl))
    rwa [block_add] at this
section
variable {H : Type} {enc : TypeId × Value → H} {P : Program} {w : World} {base : Nat} {spare : Nat → Bool} {held : Bool}
/-- A slice of structs of one-cell fields, opened. -/
theorem open_fields {t e : TypeId} {fs : Array Field} {fuel : Nat} {cs : List Value} {x : DataW H × List MemPlace} (ht : P.underlying t = some (.slice e)) (he : P.underlying e = some (.struct fs))
    (hone : oneCellFields P fs = true) (hC : P.cellsOf e = fs.size) (h : DataW.trod enc P w base spare held fuel t cs = some x) :
    cs = [.slice none 0 0] ∨
    ∃ (a : Addr) (len cap : Nat), cs = [.slice (some a) len cap] ∧ len ≤ cap ∧ cap ≤ maxLen ∧
      ∀ i, i < len → ∃ (n : Nat), ∀ (j : Nat) (f : Field), fs[j]? = some f → ∃ (v : Value) (y : DataW H × List MemPlace), w.cell? (a.add (i * fs.size + j)) = some v ∧ DataW.trod enc P w base spare held n f.type [v] = some y := by
  rcases Go.Deep.open_slice ht h with ⟨h0, _⟩ | ⟨a, len, cap, m, n, D, Pl, hcs, hb, hl, hm, hmm, hx, hi⟩
  · exact .inl h0
  · refine .inr ⟨a, len, cap, hcs, hl, hm, fun i him => ?_⟩
    obtain ⟨cs', hc, ht'⟩ := hi i (by rw [hmm]; split <;> omega)
    rw [hC] at hc
    obtain ⟨ys, n', hn', hy, hlen, hyl, hf⟩ := DataW.trod_struct he ht'
    obtain ⟨_, hcl, hat⟩ := World.cells?_some hc
    refine ⟨n', fun j f hj => ?_⟩
    obtain ⟨ho, hk⟩ := hone_of hone j f hj
    have hjl : j < fs.size := (Array.getElem?_eq_some_iff.1 hj).1
    have hcell := hat j hjl
    have hv : cs'[j]? = some (cs'[j]'(by omega)) := List.getElem?_eq_getElem (by omega)
    have h1 := hf j f hj
    rw [ho, hk, List.drop_eq_getElem_cons (by omega)] at h1
    have hys : ys[j]? = some (ys[j]'(by omega)) := List.getElem?_eq_getElem (by omega)
    refine ⟨cs'[j]'(by omega), ys[j]'(by omega), ?_, h1.trans hys⟩
    rw [← Go.Deep.add_add, hcell, hv]
end
instance : Inhabited Cl := ⟨⟨[], 0⟩⟩
instance : Inhabited Vl := ⟨⟨0, 0, []⟩⟩
section
variable {H : Type} {enc : TypeId × Value → H} {w : World} {base : Nat} {spare : Nat → Bool} {held : Bool} {fuel : Nat} {cs : List Value} {x : DataW H × List MemPlace}
theorem open_cols (h : DataW.trod enc Tryz.prog w base spare held fuel 22 cs = some x) :
    ∃ (A : Option Addr) (c : Nat) (l : List Cl), cs = [.slice A l.length c] ∧ l.length ≤ c ∧ c ≤ maxLen ∧ Rd w [] 2 A l.length (csCells l) ∧ ∀ c ∈ l, c.name.length ≤ maxLen := by
  rcases open_fields Tryz.underlying22 Tryz.underlying39 (by kernel_rfl) (by kernel_rfl) h with rfl | ⟨a, len, cap, rfl, hl, hm, hi⟩
  · exact ⟨none, 0, [], rfl, Nat.le_refl _, Nat.zero_le _, Rd.nil, by simp⟩
  · have hx : ∀ i, i < len → ∃ c : Cl, w.cell? (a.add (i * 2)) = some (.string (bs c.name)) ∧ w.cell? (a.add (i * 2 + 1)) = some (.int .i64 c.kind) ∧ c.name.length ≤ maxLen := fun i hil => by
      obtain ⟨n, hf⟩ := hi i hil
      obtain ⟨v0, y0, hc0, ht0⟩ := hf 0 _ rfl
      obtain ⟨v1, y1, hc1, ht1⟩ := hf 1 _ rfl
      obtain ⟨s, e0, _, hs⟩ := DataW.trod_string Tryz.underlying9 ht0
      obtain ⟨k, e1, _, _⟩ := DataW.trod_int Tryz.underlying3 ht1
      injection e0 with e0
      injection e1 with e1
      subst e0 e1
      exact ⟨⟨s.data.toList, k⟩, hc0, hc1, hs⟩
    obtain ⟨f, hf⟩ := Go.Deep.choose_lt hx
    have hll : ((List.range len).map f).length = len := by simp
    refine ⟨some a, cap, (List.range len).map f, by rw [hll], by rw [hll]; exact hl, hm, rd_flat (by decide) cCells (fun _ => rfl) _ a (fun i hi r u hu => ?_), fun c hc => ?_⟩
    · have hil : i < len := by rw [hll] at hi; exact hi
      rw [List.getElem_map, List.getElem_range] at hu
      obtain ⟨h1, h2, _⟩ := hf i hil
      rcases r with _ | _ | r
      · injection hu with hu; rw [← hu]; exact h1
      · injection hu with hu; rw [← hu]; exact h2
      · simp [cCells] at hu
    · obtain ⟨i, hi, rfl⟩ := List.mem_map.1 hc
      exact (hf i (List.mem_range.1 hi)).2.2
theorem open_vals (h : DataW.trod enc Tryz.prog w base spare held fuel 41 cs = some x) :
    ∃ (A : Option Addr) (c : Nat) (l : List Vl), cs = [.slice A l.length c] ∧ l.length ≤ c ∧ c ≤ maxLen ∧ Rd w [] 3 A l.length (vsCells l) ∧ ∀ v ∈ l, v.word.length ≤ maxLen ∧ numOk v.num := by
  rcases open_fields Tryz.underlying41 Tryz.underlying32 (by kernel_rfl) (by kernel_rfl) h with rfl | ⟨a, len, cap, rfl, hl, hm, hi⟩
  · exact ⟨none, 0, [], rfl, Nat.le_refl _, Nat.zero_le _, Rd.nil, by simp⟩
  · have hx : ∀ i, i < len → ∃ c : Vl, w.cell? (a.add (i * 3)) = some (.int .i64 c.kind) ∧ w.cell? (a.add (i * 3 + 1)) = some (.int .i64 c.num) ∧ w.cell? (a.add (i * 3 + 2)) = some (.string (bs c.word)) ∧ c.word.length ≤ maxLen ∧ numOk c.num := fun i hil => by
      obtain ⟨n, hf⟩ := hi i hil
      obtain ⟨v0, y0, hc0, ht0⟩ := hf 0 _ rfl
      obtain ⟨v1, y1, hc1, ht1⟩ := hf 1 _ rfl
      obtain ⟨v2, y2, hc2, ht2⟩ := hf 2 _ rfl
      obtain ⟨k, e0, _, _⟩ := DataW.trod_int Tryz.underlying3 ht0
      obtain ⟨m, e1, _, hm⟩ := DataW.trod_int Tryz.underlying3 ht1
      obtain ⟨s, e2, _, hs⟩ := DataW.trod_string Tryz.underlying9 ht2
      injection e0 with e0
      injection e1 with e1
      injection e2 with e2
      subst e0 e1 e2
      exact ⟨⟨k, m, s.data.toList⟩, hc0, hc1, hc2, hs, num_of_wf hm⟩
    obtain ⟨f, hf⟩ := Go.Deep.choose_lt hx
    have hll : ((List.range len).map f).length = len := by simp
    refine ⟨some a, cap, (List.range len).map f, by rw [hll], by rw [hll]; exact hl, hm, rd_flat (by decide) vCells (fun _ => rfl) _ a (fun i hi r u hu => ?_), fun c hc => ?_⟩
    · have hil : i < len := by rw [hll] at hi; exact hi
      rw [List.getElem_map, List.getElem_range] at hu
      obtain ⟨h1, h2, h3, _⟩ := hf i hil
      rcases r with _ | _ | _ | r
      · injection hu with hu; rw [← hu]; exact h1
      · injection hu with hu; rw [← hu]; exact h2
      · injection hu with hu; rw [← hu]; exact h3
      · simp [vCells] at hu
    · obtain ⟨i, hi, rfl⟩ := List.mem_map.1 hc
      exact (hf i (List.mem_range.1 hi)).2.2.2
theorem open_rows (h : DataW.trod enc Tryz.prog w base spare held fuel 23 cs = some x) :
    ∃ (A : Option Addr) (c : Nat) (l : List (List Vl)), cs = [.slice A l.length c] ∧ l.length ≤ c ∧ c ≤ maxLen ∧ RdRows w [] A l ∧ ∀ r ∈ l, r.length ≤ maxLen ∧ ∀ v ∈ r, v.word.length ≤ maxLen ∧ numOk v.num := by
  rcases Go.Deep.open_slice1 Tryz.underlying23 (by kernel_rfl) h with ⟨rfl, _⟩ | ⟨a, len, cap, m, n, V, D, Pl, rfl, _, hl, hcap, hlen, _, hcell⟩
  · exact ⟨none, 0, [], rfl, Nat.le_refl _, Nat.zero_le _, ⟨[], rfl, Rd.nil, fun i h => absurd h (by simp)⟩, by simp⟩
  · have hx : ∀ i, i < len → ∃ r : List Vl, RowIs w [] (V i) r ∧ r.length ≤ maxLen ∧ ∀ v ∈ r, v.word.length ≤ maxLen ∧ numOk v.num := fun i hi => by
      obtain ⟨A, c, l, e, h1, h2, h3, h4⟩ := open_vals (hcell i (by rw [hlen]; split <;> omega)).2
      injection e with e
      exact ⟨l, ⟨A, c, e, h1, h3⟩, by omega, h4⟩
    obtain ⟨f, hf⟩ := Go.Deep.choose_lt hx
    have hll : ((List.range len).map f).length = len := by simp
    refine ⟨some a, cap, (List.range len).map f, by rw [hll], by rw [hll]; exact hl, hcap, ⟨(List.range len).map V, by simp, ?_, fun i h h' => ?_⟩, fun r hr => ?_⟩
    · rw [hll]
      refine ⟨by simp, fun h0 => ⟨a, rfl, by simp, ?_, fun j u hu => ?_⟩⟩
      · have := World.block_lt_of_cell? _ _ (hcell 0 (by rw [hlen]; split <;> omega)).1
        rwa [block_add] at this
      · rw [List.getElem?_map, Option.map_eq_some_iff] at hu
        obtain ⟨i, hi, rfl⟩ := hu
        have hj : j < len := by
          have := (List.getElem?_eq_some_iff.1 hi).1
          simpa using this
        rw [List.getElem?_range hj] at hi
        obtain rfl := Option.some.inj hi
        exact (hcell j (by rw [hlen]; split <;> omega)).1
    · rw [List.getElem_map, List.getElem_map, List.getElem_range]
      exact (hf i (by simpa using h)).1
    · obtain ⟨i, hi, rfl⟩ := List.mem_map.1 hr
      exact (hf i (List.mem_range.1 hi)).2
end
section
variable {H : Type} {enc : TypeId × Value → H} {w : World} {base b0 : Nat} {spare : Nat → Bool} {held : Bool} {v : Value} {d : DataW H} {p : List MemPlace} {r : Reach}
set_option maxRecDepth 100000 in
theorem open_value (hv : Value.okWide Tryz.prog w r b0 32 v) (h : DataW.Trod enc Tryz.prog w base spare held 32 v d p) : ∃ u : Vl, v = vAgg u ∧ u.word.length ≤ maxLen ∧ numOk u.num := by
  obtain ⟨v0, v1, v2, y0, y1, y2, n, rfl, _, _, h0, h1, h2⟩ := open_agg3 Tryz.underlying32 (by kernel_rfl) (by kernel_rfl) hv h
  obtain ⟨k, e0, _, _⟩ := DataW.trod_int Tryz.underlying3 h0
  obtain ⟨m, e1, _, hm⟩ := DataW.trod_int Tryz.underlying3 h1
  obtain ⟨s, e2, _, hs⟩ := DataW.trod_string Tryz.underlying9 h2
  injection e0 with e0
  injection e1 with e1
  injection e2 with e2
  subst e0 e1 e2
  exact ⟨⟨k, m, s.data.toList⟩, rfl, hs, num_of_wf hm⟩
end
end Go.Proofs.YtomgnjgaafnkiaaGreatDoor
namespace Go.Proofs.YtomgnjgaafnkiaaGreatDoor
open Go.RowKit Go.ChangeShapes Go.WideShapes Go.Joins
open Go.Deep (oneCellFields hone_of)
section
variable {H : Type} {enc : TypeId × Value → H} {w : World} {base b0 : Nat} {spare : Nat → Bool} {held : Bool} {v : Value} {d : DataW H} {p : List MemPlace} {r : Reach}
/-- Whatever table is handed in. -/
structure TabAny (w : World) (t : Tb) (A B : Option Addr) (c d : Nat) : Prop where
  cols : Rd w [] 2 A t.cols.length (csCells t.cols)
  cc : t.cols.length ≤ c
  rows : RdRows w [] B t.rows
  cd : t.rows.length ≤ d
  names : ∀ x ∈ t.cols, x.name.length ≤ maxLen
  vals : ∀ r ∈ t.rows, r.length ≤ maxLen ∧ ∀ v ∈ r, v.word.length ≤ maxLen ∧ numOk v.num
set_option maxRecDepth 100000 in
theorem open_table (hv : Value.okWide Tryz.prog w r b0 25 v) (h : DataW.Trod enc Tryz.prog w base spare held 25 v d p) : ∃ (t : Tb) (A B : Option Addr) (c c' : Nat), v = tAgg A t.cols.length c B t.rows.length c' ∧ TabAny w t A B c c' := by
  obtain ⟨v0, v1, y0, y1, n, rfl, _, _, h0, h1⟩ := open_agg2 Tryz.underlying25 (by kernel_rfl) (by kernel_rfl) hv h
  obtain ⟨A, c, l, e0, ha, _, hb, hn⟩ := open_cols h0
  obtain ⟨B, c', rs, e1, hc, _, hd, hr⟩ := open_rows h1
  injection e0 with e0
  injection e1 with e1
  subst e0 e1
  exact ⟨⟨l, rs⟩, A, B, c, c', rfl, hb, ha, hd, hc, hn, hr⟩
theorem TabAny.inn {w : World} {t : Tb} {A B : Option Addr} {c d : Nat} (h : TabAny w t A B c d) (hs : smallB t = true) : TabIn w t A B c d ∧ TabRd w t A B := by
  unfold smallB at hs
  simp only [Bool.and_eq_true, Bool.not_eq_true', Bool.or_eq_false_iff, decide_eq_false_iff_not, List.any_eq_false] at hs
  obtain ⟨⟨⟨h1, h2⟩, h3⟩, h4⟩ := hs
  have hr : ∀ r ∈ t.rows, r.length ≤ 4294967296 := fun r hr => by
    have := h4 r hr
    simp at this
    omega
  exact ⟨⟨h.cols, h.cc, h.rows, h.cd, fun x hx => by have := h3 x hx; simp at this; omega, by omega, by omega, hr⟩, ⟨h.cols, h.rows, by omega, by omega, hr⟩⟩
end
end Go.Proofs.YtomgnjgaafnkiaaGreatDoor
