/- Arguments of any depth, opened: what the cells of a value of some type are, told level by level. -/
import Derived.Test.YtjoolemhcpcnoaaDoorBase
import Derived.ChangeArms
import Derived.ChangeShapes
import Derived.WideShapes
import Derived.DataReads
import Derived.OpenShut
namespace Go.Proofs.YtjoolemhcpcnoaaDoor
open Go.RowKit
section
variable {H : Type} {enc : TypeId × Value → H} {P : Program} {w : World} {t e : TypeId} {cs : List Value}

/-- These cells read as some datum of type t. -/
def Reads (enc : TypeId × Value → H) (P : Program) (w : World) (t : TypeId) (cs : List Value) : Prop :=
  ∃ fuel x, DataW.trod enc P w 0 (fun _ => true) true fuel t cs = some x
theorem Reads.of {v : Value} {d : DataW H} {p : List MemPlace} (h : DataW.Trod enc P w 0 (fun _ => true) true t v d p) : Reads enc P w t v.cells.toList := by
  obtain ⟨m, hm⟩ := h
  exact ⟨m, _, hm⟩
theorem Reads.int {k : IntKind} (ht : P.underlying t = some (.int k)) (h : Reads enc P w t cs) : ∃ n, cs = [.int k n] ∧ (Lit.int k n).wf = true := by
  obtain ⟨m, x, hm⟩ := h
  obtain ⟨n, h1, _, h3⟩ := DataW.trod_int ht hm
  exact ⟨n, h1, h3⟩
theorem Reads.i64 (ht : P.underlying t = some (.int .i64)) (h : Reads enc P w t cs) : ∃ n : Int, cs = [.int .i64 n] ∧ -9223372036854775808 ≤ n ∧ n ≤ 9223372036854775807 := by
  obtain ⟨n, h1, h2⟩ := h.int ht
  exact ⟨n, h1, bounds_i64 h2⟩
theorem Reads.bool (ht : P.underlying t = some .bool) (h : Reads enc P w t cs) : ∃ b, cs = [.bool b] := by
  obtain ⟨m, x, hm⟩ := h
  obtain ⟨b, h1, _⟩ := DataW.trod_bool ht hm
  exact ⟨b, h1⟩
theorem Reads.str (ht : P.underlying t = some .string) (h : Reads enc P w t cs) : ∃ s : Bs, cs = [.string (bs s)] ∧ s.length ≤ maxLen := by
  obtain ⟨m, x, hm⟩ := h
  obtain ⟨s, h1, _, h3⟩ := DataW.trod_string ht hm
  exact ⟨s.data.toList, h1, h3⟩
theorem flatten_get {α : Type} (n : Nat) : ∀ (css : List (List α)), (∀ c ∈ css, c.length = n) → ∀ (i r : Nat) (c : List α), css[i]? = some c → r < n → css.flatten[i * n + r]? = c[r]? := by
  intro css
  induction css with
  | nil => intro _ i r c hc; simp at hc
  | cons d css ih =>
    intro hl i r c hc hr
    have hd : d.length = n := hl d (by simp)
    rw [List.flatten_cons]
    cases i with
    | zero =>
      have : d = c := by simpa using hc
      subst this
      rw [Nat.zero_mul, Nat.zero_add, List.getElem?_append_left (by omega)]
    | succ i =>
      rw [List.getElem?_append_right (by rw [hd, Nat.succ_mul]; omega), hd, show (i + 1) * n + r - n = i * n + r by rw [Nat.succ_mul]; omega]
      exact ih (fun c hc => hl c (by simp [hc])) i r c (by simpa using hc) hr
theorem flatten_len {α : Type} (n : Nat) (css : List (List α)) (h : ∀ c ∈ css, c.length = n) : css.flatten.length = css.length * n := by
  induction css with
  | nil => simp
  | cons d css ih => rw [List.flatten_cons, List.length_append, h d (by simp), ih (fun c hc => h c (by simp [hc])), List.length_cons, Nat.succ_mul]; omega
/-- A slice: its elements' cells, one list an element, in one row. -/
theorem Reads.slice {size : Nat} (ht : P.underlying t = some (.slice e)) (hs : P.cellsOf e = size) (h0 : 0 < size) (h : Reads enc P w t cs) :
    ∃ (A : Option Addr) (c : Nat) (css : List (List Value)), cs = [.slice A css.length c] ∧ css.length ≤ maxLen ∧ (∀ x ∈ css, x.length = size ∧ Reads enc P w e x) ∧ Rd w [] size A css.length css.flatten := by
  obtain ⟨m, x, hm⟩ := h
  rcases DataW.trod_slice ht hm with ⟨rfl, _⟩ | ⟨a, len, cap, elems, rest, n, _, rfl, _, hb, hl, hc, hlen, hel, hrest⟩
  · exact ⟨none, 0, [], rfl, Nat.zero_le _, by simp, Rd.nil⟩
  have key : ∀ i, i < len → ∃ cs', w.cells? 0 (a.add (i * P.cellsOf e)) (P.cellsOf e) = some cs' ∧ Reads enc P w e cs' := fun i hi => by
    have := hel i hi
    rw [List.getElem?_eq_getElem (by omega)] at this
    obtain ⟨cs', h1, h2⟩ := Option.bind_eq_some_iff.1 this
    exact ⟨cs', h1, n, _, h2⟩
  have hcss : ∃ css : List (List Value), css.length = len ∧ ∀ i c, css[i]? = some c → w.cells? 0 (a.add (i * P.cellsOf e)) (P.cellsOf e) = some c ∧ Reads enc P w e c := by
    clear hel hlen hl hm hrest
    induction len with
    | zero => exact ⟨[], rfl, fun i c h => by simp at h⟩
    | succ k ih =>
      obtain ⟨css, h1, h2⟩ := ih (fun i hi => key i (by omega))
      obtain ⟨c, h3, h4⟩ := key k (by omega)
      refine ⟨css ++ [c], by simp [h1], fun i d hd => ?_⟩
      by_cases hi : i < css.length
      · rw [List.getElem?_append_left hi] at hd; exact h2 i d hd
      · rw [List.getElem?_append_right (by omega)] at hd
        have hik : i - css.length = 0 := by
          rcases Nat.eq_zero_or_pos (i - css.length) with h | h
          · exact h
          · rw [List.getElem?_eq_none (by simp; omega)] at hd; cases hd
        rw [hik] at hd
        have : c = d := by simpa using hd
        subst this
        rw [show i = k by omega]
        exact ⟨h3, h4⟩
  obtain ⟨css, h1, h2⟩ := hcss
  rw [hs] at h2
  have hlens : ∀ c ∈ css, c.length = size := fun c hc => by
    obtain ⟨i, hi⟩ := List.mem_iff_getElem?.1 hc
    exact (World.cells?_some (h2 i c hi).1).2.1
  refine ⟨some a, cap, css, by rw [h1], by omega, fun c hc => ⟨hlens c hc, ?_⟩, flatten_len size css hlens, fun hn => ?_⟩
  · obtain ⟨i, hi⟩ := List.mem_iff_getElem?.1 hc
    exact (h2 i c hi).2
  have hcell : ∀ j u, css.flatten[j]? = some u → w.cell? (a.add j) = some u := fun j u hu => by
    have hj : j < css.length * size := by rw [← flatten_len size css hlens]; exact (List.getElem?_eq_some_iff.1 hu).1
    have hq : j / size < css.length := Nat.div_lt_of_lt_mul (by rw [Nat.mul_comm]; exact hj)
    have hr : j % size < size := Nat.mod_lt _ h0
    have hg := List.getElem?_eq_getElem hq
    have e1 := flatten_get size css hlens (j / size) (j % size) _ hg hr
    rw [Nat.mul_comm, Nat.div_add_mod] at e1
    obtain ⟨_, _, hc⟩ := World.cells?_some (h2 _ _ hg).1
    have e2 := hc (j % size) hr
    rw [add_add, Nat.mul_comm, Nat.div_add_mod] at e2
    rw [e2, ← e1, hu]
  refine ⟨a, rfl, by simp, ?_, hcell⟩
  obtain ⟨u, hu⟩ : ∃ u, css.flatten[0]? = some u := ⟨_, List.getElem?_eq_getElem (by rw [flatten_len size css hlens]; exact Nat.mul_pos hn h0)⟩
  have hc0 := hcell 0 u hu
  have := World.block_lt_of_cell? _ _ hc0
  rwa [block_add] at this
/-- A struct: each field's cells. -/
theorem Reads.struct {fs : Array Field} (ht : P.underlying t = some (.struct fs)) (h : Reads enc P w t cs) :
    cs.length = P.cellsOf t ∧ ∀ (i : Nat) (f : Field), fs[i]? = some f → Reads enc P w f.type ((cs.drop f.offset).take (P.cellsOf f.type)) := by
  obtain ⟨m, x, hm⟩ := h
  obtain ⟨xs, n, _, _, hl, hlen, hf⟩ := DataW.trod_struct ht hm
  refine ⟨hl, fun i f hi => ?_⟩
  have hi' : i < xs.length := by rw [hlen]; exact (Array.getElem?_eq_some_iff.1 hi).1
  exact ⟨n, xs[i], by rw [hf i f hi, List.getElem?_eq_getElem hi']⟩
/-- One field's cells. -/
theorem Reads.fieldAt {fs : Array Field} {t' : TypeId} {o n : Nat} {f : Field} (h : Reads enc P w t cs) (ht : P.underlying t = some (.struct fs)) (i : Nat) (hi : fs[i]? = some f) (h1 : f.type = t') (h2 : f.offset = o) (h3 : P.cellsOf t' = n) :
    Reads enc P w t' ((cs.drop o).take n) := by
  subst h1 h2 h3
  exact (h.struct ht).2 i f hi
/-- Each list of cells is some object's: then all are a list of objects'. -/
theorem all_of {α : Type} (f : α → List Value) (Q : α → Prop) : ∀ (css : List (List Value)), (∀ c ∈ css, ∃ o, c = f o ∧ Q o) → ∃ l : List α, css = l.map f ∧ ∀ o ∈ l, Q o := by
  intro css
  induction css with
  | nil => intro _; exact ⟨[], rfl, by simp⟩
  | cons c css ih =>
    intro h
    obtain ⟨o, ho, hq⟩ := h c (by simp)
    obtain ⟨l, hl, hql⟩ := ih (fun d hd => h d (by simp [hd]))
    refine ⟨o :: l, by rw [ho, hl]; rfl, fun x hx => ?_⟩
    rcases List.mem_cons.1 hx with rfl | hx
    · exact hq
    · exact hql x hx
theorem list4 {α : Type} {l : List α} (h : l.length = 4) : ∃ a b c d, l = [a, b, c, d] := by
  match l, h with
  | [a, b, c, d], _ => exact ⟨a, b, c, d, rfl⟩
theorem flatten_map {α : Type} (f : α → List Value) (l : List α) : (l.map f).flatten = l.flatMap f := rfl
theorem flatMap_one {α : Type} (f : α → Value) (l : List α) : (l.flatMap fun a => [f a]) = l.map f := by
  induction l with
  | nil => rfl
  | cons a l ih => simp [ih]
/-- A slice of objects of some cells each. -/
theorem Reads.list {α : Type} {size : Nat} (f : α → List Value) (Q : α → Prop) (ht : P.underlying t = some (.slice e)) (hs : P.cellsOf e = size) (h0 : 0 < size)
    (he : ∀ cs, Reads enc P w e cs → ∃ o, cs = f o ∧ Q o) (h : Reads enc P w t cs) :
    ∃ (A : Option Addr) (c : Nat) (l : List α), cs = [.slice A l.length c] ∧ l.length ≤ maxLen ∧ Rd w [] size A l.length (l.flatMap f) ∧ ∀ o ∈ l, Q o := by
  obtain ⟨A, c, css, rfl, h1, h2, h3⟩ := h.slice ht hs h0
  obtain ⟨l, rfl, hQ⟩ := all_of f Q css (fun d hd => he d (h2 d hd).2)
  rw [List.length_map] at h1 h3 ⊢
  exact ⟨A, c, l, rfl, h1, h3, hQ⟩
theorem Reads.bools (ht : P.underlying t = some (.slice e)) (he : P.underlying e = some .bool) (hs : P.cellsOf e = 1) (h : Reads enc P w t cs) :
    ∃ (A : Option Addr) (c : Nat) (l : List Bool), cs = [.slice A l.length c] ∧ l.length ≤ maxLen ∧ Rd w [] 1 A l.length (l.map Value.bool) := by
  obtain ⟨A, c, l, h1, h2, h3, _⟩ := h.list (fun b => [Value.bool b]) (fun _ => True) ht hs (by omega) (fun cs hc => by obtain ⟨b, hb⟩ := hc.bool he; exact ⟨b, hb, trivial⟩)
  rw [flatMap_one] at h3
  exact ⟨A, c, l, h1, h2, h3⟩
theorem Reads.strs (ht : P.underlying t = some (.slice e)) (he : P.underlying e = some .string) (hs : P.cellsOf e = 1) (h : Reads enc P w t cs) :
    ∃ (A : Option Addr) (c : Nat) (l : List Bs), cs = [.slice A l.length c] ∧ l.length ≤ maxLen ∧ Rd w [] 1 A l.length (l.map fun s => .string (bs s)) ∧ ∀ s ∈ l, s.length ≤ maxLen := by
  obtain ⟨A, c, l, h1, h2, h3, h4⟩ := h.list (fun s => [Value.string (bs s)]) (fun s => s.length ≤ maxLen) ht hs (by omega) (fun cs hc => by obtain ⟨b, hb, hl⟩ := hc.str he; exact ⟨b, hb, hl⟩)
  rw [flatMap_one] at h3
  exact ⟨A, c, l, h1, h2, h3, h4⟩
theorem Reads.ints (ht : P.underlying t = some (.slice e)) (he : P.underlying e = some (.int .i64)) (hs : P.cellsOf e = 1) (h : Reads enc P w t cs) :
    ∃ (A : Option Addr) (c : Nat) (l : List Int), cs = [.slice A l.length c] ∧ l.length ≤ maxLen ∧ Rd w [] 1 A l.length (l.map (Value.int .i64)) ∧ ∀ n ∈ l, -9223372036854775808 ≤ n ∧ n ≤ 9223372036854775807 := by
  obtain ⟨A, c, l, h1, h2, h3, h4⟩ := h.list (fun n => [Value.int .i64 n]) (fun n => -9223372036854775808 ≤ n ∧ n ≤ 9223372036854775807) ht hs (by omega) (fun cs hc => by obtain ⟨b, hb, hl⟩ := hc.i64 he; exact ⟨b, hb, hl⟩)
  rw [flatMap_one] at h3
  exact ⟨A, c, l, h1, h2, h3, h4⟩
end
end Go.Proofs.YtjoolemhcpcnoaaDoor
