/- Arguments opened: values, columns, rows. Tables opened. TableReads: its walk. -/
import Derived.Test.YtpagiajlefejcaaGreatDoorTbrM4
import Derived.Test.YtpagiajlefejcaaGreatDoorTbrM1
import Derived.Deep.Fields
import Derived.Deep.Slices
import Derived.Lib.SmallJoins
import Derived.Test.YtpagiajlefejcaaGreatDoorTbrM15
import Derived.Test.YtpagiajlefejcaaGreatDoorTbrM13
import Derived.Test.YtpagiajlefejcaaGreatDoorTbrM16
import Derived.Test.YtpagiajlefejcaaGreatDoorTbrM18
import Derived.Test.YtpagiajlefejcaaGreatDoorTbrM19
import Derived.Test.YtpagiajlefejcaaGreatDoorTbrM2
set_option linter.unusedSimpArgs false
set_option linter.unusedVariables false
namespace Go.Proofs.YtpagiajlefejcaaGreatDoor
open Go.RowKit Go.ChangeShapes Go.WideShapes Go.Joins
open Go.Deep (oneCellFields hone_of)
theorem num_of_wf {n : Int} (h : (Lit.int .i64 n).wf = true) : numOk n := by
 have e1 : IntKind.i64.min = -9223372036854775808 := by decide
 have e2 : IntKind.i64.max = 9223372036854775807 := by decide
 have h' : (decide (IntKind.i64.min ≤ n) && decide (n ≤ IntKind.i64.max)) = true := h
 rw [e1, e2, Bool.and_eq_true, decide_eq_true_eq, decide_eq_true_eq] at h'
 exact h'
theorem oflat_at {W : World} {α : Type} {size : Nat} (cells : α → List Value) (hsz : ∀ x, (cells x).length = size) : ∀ (l : List α) (a : Addr), (∀ i (hi : i < l.length) (r : Nat) (u : Value), (cells l[i])[r]? = some u → W.cell? (a.add (i * size + r)) = some u) → ∀ j u, (l.flatMap cells)[j]? = some u → W.cell? (a.add j) = some u
 | [], _, _, j, u, hu => by simp at hu
 | x :: l, a, h, j, u, hu => by
  rw [List.flatMap_cons] at hu
  by_cases hj : j < size
  ·rw [List.getElem?_append_left (by rw [hsz]; exact hj)] at hu
   have := h 0 (by simp) j u hu
   rwa [Nat.zero_mul, Nat.zero_add] at this
  ·rw [List.getElem?_append_right (by rw [hsz]; omega), hsz] at hu
   have := oflat_at cells hsz l (a.add size) (fun i hi r u hr => by
    have := h (i + 1) (by simpa using hi) r u hr
    rw [add_add, show size + (i * size + r) = (i + 1) * size + r by rw [Nat.succ_mul]; omega]
    exact this) _ u hu
   rw [add_add, show size + (j - size) = j by omega] at this
   exact this
theorem rd_flat {W : World} {α : Type} {size : Nat} (hs : 0 < size) (cells : α → List Value) (hsz : ∀ x, (cells x).length = size) (l : List α) (a : Addr) (h : ∀ i (hi : i < l.length) (r : Nat) (u : Value), (cells l[i])[r]? = some u → W.cell? (a.add (i * size + r)) = some u) : Rd W [] size (some a) l.length (l.flatMap cells) := by
 refine ⟨?_, fun h0 => ⟨a, rfl, by simp, ?_, oflat_at cells hsz l a h⟩⟩
 ·clear h
  induction l with
  | nil => simp
  | cons x l ih => rw [List.flatMap_cons, List.length_append, hsz, ih, List.length_cons, Nat.succ_mul]; omega
 ·have hl : 0 < (cells l[0]).length := by rw [hsz]; exact hs
  have := World.block_lt_of_cell? _ _ (h 0 h0 0 _ (List.getElem?_eq_getElem hl))
  rwa [block_add] at this
section
variable {H : Type} {enc : TypeId × Value → H} {P : Program} {w : World} {base : Nat} {spare : Nat → Bool} {held : Bool}
theorem open_fields {t e : TypeId} {fs : Array Field} {fuel : Nat} {cs : List Value} {x : DataW H × List MemPlace} (ht : P.underlying t = some (.slice e)) (he : P.underlying e = some (.struct fs))
  (hone : oneCellFields P fs = true) (hC : P.cellsOf e = fs.size) (h : DataW.trod enc P w base spare held fuel t cs = some x) :
  cs = [.slice none 0 0] ∨
  ∃ (a : Addr) (len cap : Nat), cs = [.slice (some a) len cap] ∧ len ≤ cap ∧ cap ≤ maxLen ∧
   ∀ i, i < len → ∃ (n : Nat), ∀ (j : Nat) (f : Field), fs[j]? = some f → ∃ (v : Value) (y : DataW H × List MemPlace), w.cell? (a.add (i * fs.size + j)) = some v ∧ DataW.trod enc P w base spare held n f.type [v] = some y := by
 rcases Go.Deep.open_slice ht h with ⟨h0, _⟩ | ⟨a, len, cap, m, n, D, Pl, hcs, hb, hl, hm, hmm, hx, hi⟩
 ·exact .inl h0
 ·refine .inr ⟨a, len, cap, hcs, hl, hm, fun i him => ?_⟩
  obtain ⟨cs', hc, ht'⟩ := hi i (by rw [hmm]; split <;> omega)
  rw [hC] at hc
  obtain ⟨ys, n', hn', hy, hlen, hyl, hf⟩ := DataW.trod_struct he ht'
  obtain ⟨_, hcl, hat⟩ := World.cells?_some hc
  refine ⟨n', fun j f hj => ?_⟩
  obtain ⟨ho, hk⟩ := hone_of hone j f hj
  have hjl : j < fs.size := (Array.getElem?_eq_some_iff.1 hj).1
  have hcell := hat j hjl
  have hv : cs'[j]? = some (cs'[j]'(by omega)) := List.getElem?_eq_getElem (by omega)
  have h1 := hf j f hj
  rw [ho, hk, List.drop_eq_getElem_cons (by omega)] at h1
  have hys : ys[j]? = some (ys[j]'(by omega)) := List.getElem?_eq_getElem (by omega)
  refine ⟨cs'[j]'(by omega), ys[j]'(by omega), ?_, h1.trans hys⟩
  rw [← Go.Deep.add_add, hcell, hv]
end
instance : Inhabited Cl := ⟨⟨[], 0⟩⟩
instance : Inhabited Vl := ⟨⟨0, 0, []⟩⟩
section
variable {H : Type} {enc : TypeId × Value → H} {w : World} {base : Nat} {spare : Nat → Bool} {held : Bool} {fuel : Nat} {cs : List Value} {x : DataW H × List MemPlace}
theorem open_cols (h : DataW.trod enc Tryz.prog w base spare held fuel 22 cs = some x) :
  ∃ (A : Option Addr) (c : Nat) (l : List Cl), cs = [.slice A l.length c] ∧ l.length ≤ c ∧ c ≤ maxLen ∧ Rd w [] 2 A l.length (csCells l) ∧ ∀ c ∈ l, c.name.length ≤ maxLen := by
 rcases open_fields Tryz.underlying22 Tryz.underlying109 (by kernel_rfl) (by kernel_rfl) h with rfl | ⟨a, len, cap, rfl, hl, hm, hi⟩
 ·exact ⟨none, 0, [], rfl, Nat.le_refl _, Nat.zero_le _, Rd.nil, by simp⟩
 ·have hx : ∀ i, i < len → ∃ c : Cl, w.cell? (a.add (i * 2)) = some (.string (bs c.name)) ∧ w.cell? (a.add (i * 2 + 1)) = some (.int .i64 c.kind) ∧ c.name.length ≤ maxLen := fun i hil => by
   obtain ⟨n, hf⟩ := hi i hil
   obtain ⟨v0, y0, hc0, ht0⟩ := hf 0 _ rfl
   obtain ⟨v1, y1, hc1, ht1⟩ := hf 1 _ rfl
   obtain ⟨s, e0, _, hs⟩ := DataW.trod_string Tryz.underlying9 ht0
   obtain ⟨k, e1, _, _⟩ := DataW.trod_int Tryz.underlying3 ht1
   injection e0 with e0
   injection e1 with e1
   subst e0 e1
   exact ⟨⟨s.data.toList, k⟩, hc0, hc1, hs⟩
  obtain ⟨f, hf⟩ := Go.Deep.choose_lt hx
  have hll : ((List.range len).map f).length = len := by simp
  refine ⟨some a, cap, (List.range len).map f, by rw [hll], by rw [hll]; exact hl, hm, rd_flat (by decide) cCells (fun _ => rfl) _ a (fun i hi r u hu => ?_), fun c hc => ?_⟩
  ·have hil : i < len := by rw [hll] at hi; exact hi
   rw [List.getElem_map, List.getElem_range] at hu
   obtain ⟨h1, h2, _⟩ := hf i hil
   rcases r with _ | _ | r
   ·injection hu with hu; rw [← hu]; exact h1
   ·injection hu with hu; rw [← hu]; exact h2
   ·simp [cCells] at hu
  ·obtain ⟨i, hi, rfl⟩ := List.mem_map.1 hc
   exact (hf i (List.mem_range.1 hi)).2.2
theorem open_vals (h : DataW.trod enc Tryz.prog w base spare held fuel 110 cs = some x) :
  ∃ (A : Option Addr) (c : Nat) (l : List Vl), cs = [.slice A l.length c] ∧ l.length ≤ c ∧ c ≤ maxLen ∧ Rd w [] 3 A l.length (vsCells l) ∧ ∀ v ∈ l, v.word.length ≤ maxLen ∧ numOk v.num := by
 rcases open_fields Tryz.underlying110 Tryz.underlying27 (by kernel_rfl) (by kernel_rfl) h with rfl | ⟨a, len, cap, rfl, hl, hm, hi⟩
 ·exact ⟨none, 0, [], rfl, Nat.le_refl _, Nat.zero_le _, Rd.nil, by simp⟩
 ·have hx : ∀ i, i < len → ∃ c : Vl, w.cell? (a.add (i * 3)) = some (.int .i64 c.kind) ∧ w.cell? (a.add (i * 3 + 1)) = some (.int .i64 c.num) ∧ w.cell? (a.add (i * 3 + 2)) = some (.string (bs c.word)) ∧ c.word.length ≤ maxLen ∧ numOk c.num := fun i hil => by
   obtain ⟨n, hf⟩ := hi i hil
   obtain ⟨v0, y0, hc0, ht0⟩ := hf 0 _ rfl
   obtain ⟨v1, y1, hc1, ht1⟩ := hf 1 _ rfl
   obtain ⟨v2, y2, hc2, ht2⟩ := hf 2 _ rfl
   obtain ⟨k, e0, _, _⟩ := DataW.trod_int Tryz.underlying3 ht0
   obtain ⟨m, e1, _, hm⟩ := DataW.trod_int Tryz.underlying3 ht1
   obtain ⟨s, e2, _, hs⟩ := DataW.trod_string Tryz.underlying9 ht2
   injection e0 with e0
   injection e1 with e1
   injection e2 with e2
   subst e0 e1 e2
   exact ⟨⟨k, m, s.data.toList⟩, hc0, hc1, hc2, hs, num_of_wf hm⟩
  obtain ⟨f, hf⟩ := Go.Deep.choose_lt hx
  have hll : ((List.range len).map f).length = len := by simp
  refine ⟨some a, cap, (List.range len).map f, by rw [hll], by rw [hll]; exact hl, hm, rd_flat (by decide) vCells (fun _ => rfl) _ a (fun i hi r u hu => ?_), fun c hc => ?_⟩
  ·have hil : i < len := by rw [hll] at hi; exact hi
   rw [List.getElem_map, List.getElem_range] at hu
   obtain ⟨h1, h2, h3, _⟩ := hf i hil
   rcases r with _ | _ | _ | r
   ·injection hu with hu; rw [← hu]; exact h1
   ·injection hu with hu; rw [← hu]; exact h2
   ·injection hu with hu; rw [← hu]; exact h3
   ·simp [vCells] at hu
  ·obtain ⟨i, hi, rfl⟩ := List.mem_map.1 hc
   exact (hf i (List.mem_range.1 hi)).2.2.2
theorem open_rows (h : DataW.trod enc Tryz.prog w base spare held fuel 23 cs = some x) :
  ∃ (A : Option Addr) (c : Nat) (l : List (List Vl)), cs = [.slice A l.length c] ∧ l.length ≤ c ∧ c ≤ maxLen ∧ RdRows w [] A l ∧ ∀ r ∈ l, r.length ≤ maxLen ∧ ∀ v ∈ r, v.word.length ≤ maxLen ∧ numOk v.num := by
 rcases Go.Deep.open_slice1 Tryz.underlying23 (by kernel_rfl) h with ⟨rfl, _⟩ | ⟨a, len, cap, m, n, V, D, Pl, rfl, _, hl, hcap, hlen, _, hcell⟩
 ·exact ⟨none, 0, [], rfl, Nat.le_refl _, Nat.zero_le _, ⟨[], rfl, Rd.nil, fun i h => absurd h (by simp)⟩, by simp⟩
 ·have hx : ∀ i, i < len → ∃ r : List Vl, RowIs w [] (V i) r ∧ r.length ≤ maxLen ∧ ∀ v ∈ r, v.word.length ≤ maxLen ∧ numOk v.num := fun i hi => by
   obtain ⟨A, c, l, e, h1, h2, h3, h4⟩ := open_vals (hcell i (by rw [hlen]; split <;> omega)).2
   injection e with e
   exact ⟨l, ⟨A, c, e, h1, h3⟩, by omega, h4⟩
  obtain ⟨f, hf⟩ := Go.Deep.choose_lt hx
  have hll : ((List.range len).map f).length = len := by simp
  refine ⟨some a, cap, (List.range len).map f, by rw [hll], by rw [hll]; exact hl, hcap, ⟨(List.range len).map V, by simp, ?_, fun i h h' => ?_⟩, fun r hr => ?_⟩
  ·rw [hll]
   refine ⟨by simp, fun h0 => ⟨a, rfl, by simp, ?_, fun j u hu => ?_⟩⟩
   ·have := World.block_lt_of_cell? _ _ (hcell 0 (by rw [hlen]; split <;> omega)).1
    rwa [block_add] at this
   ·rw [List.getElem?_map, Option.map_eq_some_iff] at hu
    obtain ⟨i, hi, rfl⟩ := hu
    have hj : j < len := by
     have := (List.getElem?_eq_some_iff.1 hi).1
     simpa using this
    rw [List.getElem?_range hj] at hi
    obtain rfl := Option.some.inj hi
    exact (hcell j (by rw [hlen]; split <;> omega)).1
  ·rw [List.getElem_map, List.getElem_map, List.getElem_range]
   exact (hf i (by simpa using h)).1
  ·obtain ⟨i, hi, rfl⟩ := List.mem_map.1 hr
   exact (hf i (List.mem_range.1 hi)).2
end
section
variable {H : Type} {enc : TypeId × Value → H} {w : World} {base b0 : Nat} {spare : Nat → Bool} {held : Bool} {v : Value} {d : DataW H} {p : List MemPlace} {r : Reach}
set_option maxRecDepth 100000 in
theorem open_value (hv : Value.okWide Tryz.prog w r b0 27 v) (h : DataW.Trod enc Tryz.prog w base spare held 27 v d p) : ∃ u : Vl, v = vAgg u ∧ u.word.length ≤ maxLen ∧ numOk u.num := by
 obtain ⟨v0, v1, v2, y0, y1, y2, n, rfl, _, _, h0, h1, h2⟩ := open_agg3 Tryz.underlying27 (by kernel_rfl) (by kernel_rfl) hv h
 obtain ⟨k, e0, _, _⟩ := DataW.trod_int Tryz.underlying3 h0
 obtain ⟨m, e1, _, hm⟩ := DataW.trod_int Tryz.underlying3 h1
 obtain ⟨s, e2, _, hs⟩ := DataW.trod_string Tryz.underlying9 h2
 injection e0 with e0
 injection e1 with e1
 injection e2 with e2
 subst e0 e1 e2
 exact ⟨⟨k, m, s.data.toList⟩, rfl, hs, num_of_wf hm⟩
end
end Go.Proofs.YtpagiajlefejcaaGreatDoor
namespace Go.Proofs.YtpagiajlefejcaaGreatDoor
open Go.RowKit Go.ChangeShapes Go.WideShapes Go.Joins
open Go.Deep (oneCellFields hone_of)
section
variable {H : Type} {enc : TypeId × Value → H} {w : World} {base b0 : Nat} {spare : Nat → Bool} {held : Bool} {v : Value} {d : DataW H} {p : List MemPlace} {r : Reach}
structure TabAny (w : World) (t : Tb) (A B : Option Addr) (c d : Nat) : Prop where
 cols : Rd w [] 2 A t.cols.length (csCells t.cols)
 cc : t.cols.length ≤ c
 rows : RdRows w [] B t.rows
 cd : t.rows.length ≤ d
 names : ∀ x ∈ t.cols, x.name.length ≤ maxLen
 vals : ∀ r ∈ t.rows, r.length ≤ maxLen ∧ ∀ v ∈ r, v.word.length ≤ maxLen ∧ numOk v.num
set_option maxRecDepth 100000 in
theorem open_table (hv : Value.okWide Tryz.prog w r b0 25 v) (h : DataW.Trod enc Tryz.prog w base spare held 25 v d p) : ∃ (t : Tb) (A B : Option Addr) (c c' : Nat), v = tAgg A t.cols.length c B t.rows.length c' ∧ TabAny w t A B c c' := by
 obtain ⟨v0, v1, y0, y1, n, rfl, _, _, h0, h1⟩ := open_agg2 Tryz.underlying25 (by kernel_rfl) (by kernel_rfl) hv h
 obtain ⟨A, c, l, e0, ha, _, hb, hn⟩ := open_cols h0
 obtain ⟨B, c', rs, e1, hc, _, hd, hr⟩ := open_rows h1
 injection e0 with e0
 injection e1 with e1
 subst e0 e1
 exact ⟨⟨l, rs⟩, A, B, c, c', rfl, hb, ha, hd, hc, hn, hr⟩
end
end Go.Proofs.YtpagiajlefejcaaGreatDoor
namespace Go.Proofs.YtpagiajlefejcaaGreatDoor
open Go.RowKit Go.BigFrame
attribute [local go_sem] bs_size bs_extract bs_append bs_toList KW.cell
theorem rless_eq {a b : Vl} (ha : rvB a = true) (hb : rvB b = true) : rlessB a b = lessB a b := by
 have k1 : a.kind = 1 ∨ a.kind = 2 := (okV_of ha).1
 have k2 : b.kind = 1 ∨ b.kind = 2 := (okV_of hb).1
 unfold rlessB lessB
 split
 ·rfl
 ·rename_i h
  rcases k1 with e1 | e1 <;> rcases k2 with e2 | e2
  ·exact absurd (e1.trans e2.symm) h
  ·rw [e1, e2]; rfl
  ·rw [e1, e2]; rfl
  ·exact absurd (e1.trans e2.symm) h
set_option maxRecDepth 100000 in
set_option maxHeartbeats 16000000 in
theorem treads_t (t : Tb) (A B : Option Addr) (c d : Nat) (a b : Vl) (s : Bs) (w : World) (hT : TabAny w t A B c d) (ha : numOk a.num) (hE : TEnv w) (hN : REnv w) (hR : ErrTy w) :
  Calls Tryz.prog 3 #[tAgg A t.cols.length c B t.rows.length d, vAgg a, vAgg b, .string (bs s)] w fun e w' => e = .returned (.bool true) ∧ Keeps [] w w' := by
 have HTA := Lib.hid hT
 have HNA := Lib.hid ha
 have HE := Lib.hid hE
 have HN := Lib.hid hN
 have HR := Lib.hid hR
 clear hT ha hE hN hR
 show Calls _ _ #[.agg #[.slice A t.cols.length c, .slice B t.rows.length d], .agg #[.int .i64 a.kind, .int .i64 a.num, .string (bs a.word)], .agg #[.int .i64 b.kind, .int .i64 b.num, .string (bs b.word)], .string (bs s)] w _
 have bX := Blk.new w 25 #[.slice A t.cols.length c, .slice B t.rows.length d]
 have k1 := (Keeps.refl [] w).alloc (.cells #[.slice A t.cols.length c, .slice B t.rows.length d] 25)
 have hs1 : (w.alloc (.cells #[.slice A t.cols.length c, .slice B t.rows.length d] 25)).heap.size = w.heap.size + 1 := Array.size_push _
 obtain ⟨w1, hw1⟩ : ∃ z, w.alloc (.cells #[.slice A t.cols.length c, .slice B t.rows.length d] 25) = z := ⟨_, rfl⟩
 rw [hw1] at bX k1 hs1
 have bY := Blk.new w1 27 #[.int .i64 a.kind, .int .i64 a.num, .string (bs a.word)]
 have k2 := (Keeps.refl [] w1).alloc (.cells #[.int .i64 a.kind, .int .i64 a.num, .string (bs a.word)] 27)
 have hs2 : (w1.alloc (.cells #[.int .i64 a.kind, .int .i64 a.num, .string (bs a.word)] 27)).heap.size = w1.heap.size + 1 := Array.size_push _
 obtain ⟨w2, hw2⟩ : ∃ z, w1.alloc (.cells #[.int .i64 a.kind, .int .i64 a.num, .string (bs a.word)] 27) = z := ⟨_, rfl⟩
 rw [hw2] at bY k2 hs2
 have bZ := Blk.new w2 27 #[.int .i64 b.kind, .int .i64 b.num, .string (bs b.word)]
 have k3 := (Keeps.refl [] w2).alloc (.cells #[.int .i64 b.kind, .int .i64 b.num, .string (bs b.word)] 27)
 have hX3 := (bX.keep k2 (by simp)).keep k3 (by simp)
 have hY3 := bY.keep k3 (by simp)
 have hk3 := (k1.trans k2).trans k3
 rw [hs2, hs1] at bZ
 rw [hs1] at hY3
 rw [← hw2, ← hw1] at bZ hX3 hY3 hk3
 have hsm := smallL_any t A B c d _ (HTA.out.cols.keep hk3) (HTA.out.rows.keep hk3)
 clear bX bY k1 k2 k3 hs1 hs2 hw1 hw2 w1 w2
 go_enter Tryz.func3, Tryz.ntmps3
 go_wp2_with fail
 refine hsm.mono ?_
 rintro e w4 ⟨⟨r, rfl, hr⟩, k4⟩
 have HX := Lib.hid (hX3.keep k4 (by simp))
 have HY := Lib.hid (hY3.keep k4 (by simp))
 have HZ := Lib.hid (bZ.keep k4 (by simp))
 have HK := Lib.hid (hk3.trans k4)
 obtain ⟨X, hX⟩ : ∃ X, w.heap.size = X := ⟨_, rfl⟩
 obtain ⟨Y, hY⟩ : ∃ Y, w.heap.size + 1 = Y := ⟨_, rfl⟩
 obtain ⟨Z, hZ⟩ : ∃ Z, w.heap.size + 1 + 1 = Z := ⟨_, rfl⟩
 rw [hZ] at HZ
 rw [hY] at HY
 rw [hX] at HX
 try rw [hZ]
 try rw [hY]
 try rw [hX]
 clear hsm hX3 hY3 bZ hk3 k4 hX hY hZ
 cases r with
 | false =>
  go_wp2
  go_ret
  exact ⟨rfl, HK.out⟩
 | true =>
 have HST := Lib.hid (hr rfl)
 clear hr
 have y2 : w4.cell? ⟨Y, 2, none⟩ = some (.string (bs a.word)) := HY.out.cell 2
 have z2 : w4.cell? ⟨Z, 2, none⟩ = some (.string (bs b.word)) := HZ.out.cell 2
 by_cases h1 : 40 < a.word.length
 ·have h1' : (40 : Int) < (a.word.length : Int) := by omega
  clear h1
  go_wp2
  go_ret
  exact ⟨rfl, HK.out⟩
 have h1' : ¬ (40 : Int) < (a.word.length : Int) := by omega
 by_cases h2 : 40 < b.word.length
 ·have h2' : (40 : Int) < (b.word.length : Int) := by omega
  clear h1 h2
  go_wp2
  go_ret
  exact ⟨rfl, HK.out⟩
 have h2' : ¬ (40 : Int) < (b.word.length : Int) := by omega
 by_cases h3 : 1500 < s.length
 ·have h3' : (1500 : Int) < (s.length : Int) := by omega
  clear h1 h2 h3
  go_wp2
  go_ret
  exact ⟨rfl, HK.out⟩
 have h3' : ¬ (1500 : Int) < (s.length : Int) := by omega
 have HL := Lib.hid (And.intro h1 (And.intro h2 h3))
 clear h1 h2 h3
 have hnm : ∀ x ∈ t.cols, x.name.length ≤ 1000000 := fun x hx => Nat.le_trans (HST.out.2.2.1 x hx) (by decide)
 have hrl : ∀ r ∈ t.rows, r.length ≤ 1000000 := fun r hr => Nat.le_trans (HST.out.2.2.2 r hr).1 (by decide)
 have hwl : ∀ r ∈ t.rows, ∀ v ∈ r, v.word.length ≤ 1000000 := fun r hr v hv => Nat.le_trans ((HST.out.2.2.2 r hr).2 v hv) (by decide)
 have hcl : t.cols.length ≤ 1000 := Nat.le_trans HST.out.1 (by decide)
 have hml : t.rows.length ≤ 1000000 := Nat.le_trans HST.out.2.1 (by decide)
 have HTI : Hid (∀ W, Keeps [] w4 W → TabIn W t A B c d) := Lib.hid (fun W q => ⟨(HTA.out.cols.keep HK.out).keep q, HTA.out.cc, (HTA.out.rows.keep HK.out).keep q, HTA.out.cd, fun x hx => Nat.le_trans (hnm x hx) (by decide), by omega, by omega, fun r hr => Nat.le_trans (hrl r hr) (by decide)⟩)
 have HFT : Hid (∀ W, Keeps [] w4 W → Calls Tryz.prog 20 #[.agg #[.slice A t.cols.length c, .slice B t.rows.length d]] W fun e W' => e = .returned (rtRes t) ∧ Keeps [] W W') := Lib.hid (fun W q => tableText_any t A B c d W (HTI.out W q).cols (HTI.out W q).rows hnm hcl hml hrl hwl (HE.out.quiet (HK.out.trans q)))
 obtain ⟨ra, hra⟩ : ∃ r, rvB a = r := ⟨_, rfl⟩
 obtain ⟨rb, hrb⟩ : ∃ r, rvB b = r := ⟨_, rfl⟩
 obtain ⟨rc, hrc⟩ : ∃ r, colsB t.cols = r := ⟨_, rfl⟩
 obtain ⟨rt, hrt⟩ : ∃ r, rightB t = r := ⟨_, rfl⟩
 obtain ⟨rn, hrn⟩ : ∃ r, nameB s = r := ⟨_, rfl⟩
 have C1 : Hid (∀ W, Keeps [] w4 W → Calls Tryz.prog 8 #[.agg #[.int .i64 a.kind, .int .i64 a.num, .string (bs a.word)]] W fun e W' => e = .returned (.bool ra) ∧ Keeps [] W W') := Lib.hid (fun W _ => by rw [← hra]; exact rightValue_any a W)
 have C2 : Hid (∀ W, Keeps [] w4 W → Calls Tryz.prog 9 #[.agg #[.int .i64 a.kind, .int .i64 a.num, .string (bs a.word)]] W fun e W' => e = .returned (.bool ra) ∧ Keeps [] W W') := Lib.hid (fun W _ => by rw [← hra]; exact rRightValue_any a (by have := HL.out; omega) W)
 have C2b : Hid (∀ W, Keeps [] w4 W → Calls Tryz.prog 9 #[.agg #[.int .i64 b.kind, .int .i64 b.num, .string (bs b.word)]] W fun e W' => e = .returned (.bool rb) ∧ Keeps [] W W') := Lib.hid (fun W _ => by rw [← hrb]; exact rRightValue_any b (by have := HL.out; omega) W)
 have C3 : Hid (∀ W, Keeps [] w4 W → Calls Tryz.prog 10 #[.slice A t.cols.length c] W fun e W' => e = .returned (.bool rc) ∧ Keeps [] W W') := Lib.hid (fun W q => by rw [← hrc]; exact rightCols_any t.cols A c W (HTI.out W q).cols (HTI.out W q).cc (HTI.out W q).names (HTI.out W q).ln)
 have C4 : Hid (∀ W, Keeps [] w4 W → Calls Tryz.prog 11 #[.slice A t.cols.length c] W fun e W' => e = .returned (.bool rc) ∧ Keeps [] W W') := Lib.hid (fun W q => by rw [← hrc]; exact rRightCols_any t.cols A c W (HTI.out W q).cols hnm (by omega))
 have C5 : Hid (∀ W, Keeps [] w4 W → Calls Tryz.prog 12 #[.agg #[.slice A t.cols.length c, .slice B t.rows.length d]] W fun e W' => e = .returned (.bool rt) ∧ Keeps [] W W') := Lib.hid (fun W q => by rw [← hrt]; exact (HTI.out W q).right)
 have C6 : Hid (∀ W, Keeps [] w4 W → Calls Tryz.prog 13 #[.agg #[.slice A t.cols.length c, .slice B t.rows.length d]] W fun e W' => e = .returned (.bool rt) ∧ Keeps [] W W') := Lib.hid (fun W q => by rw [← hrt]; exact rRight_any t A B c d W (HTI.out W q).cols (HTI.out W q).rows hnm (by omega) (by omega) (fun r hr => Nat.le_trans (hrl r hr) (by decide)) hwl)
 have C7 : Hid (∀ W, Keeps [] w4 W → Calls Tryz.prog 14 #[.string (bs s)] W fun e W' => e = .returned (.bool rn) ∧ Keeps [] W W') := Lib.hid (fun W _ => by rw [← hrn]; exact name_any s (by have := HL.out; omega) W)
 have C8 : Hid (∀ W, Keeps [] w4 W → Calls Tryz.prog 15 #[.string (bs s)] W fun e W' => e = .returned (.bool rn) ∧ Keeps [] W W') := Lib.hid (fun W _ => by
  rw [← hrn]
  refine (rname_any s (by have := HL.out; omega) W).mono ?_
  rintro e w' ⟨rfl, rfl⟩
  exact ⟨rfl, Keeps.refl _ _⟩)
 have HRA := Lib.hid hra
 have HRB := Lib.hid hrb
 have HRT := Lib.hid hrt
 clear hra hrb hrc hrt hrn hnm hrl hwl hcl hml HTA HST
 have q1 : (ra != ra) = false := by simp
 have q2 : (rc != rc) = false := by simp
 have q3 : (rt != rt) = false := by simp
 have q4 : (rn != rn) = false := by simp
 have x0 : w4.cell? ⟨X, 0, none⟩ = some (.slice A t.cols.length c) := HX.out.cell 0
 have x1 : w4.cell? ⟨X, 1, none⟩ = some (.slice B t.rows.length d) := HX.out.cell 1
 have y0 : w4.cell? ⟨Y, 0, none⟩ = some (.int .i64 a.kind) := HY.out.cell 0
 have y1 : w4.cell? ⟨Y, 1, none⟩ = some (.int .i64 a.num) := HY.out.cell 1
 have z0 : w4.cell? ⟨Z, 0, none⟩ = some (.int .i64 b.kind) := HZ.out.cell 0
 have z1 : w4.cell? ⟨Z, 1, none⟩ = some (.int .i64 b.num) := HZ.out.cell 1
 have lX := HX.out.lt
 have lY := HY.out.lt
 have lZ := HZ.out.lt
 go_upto_region 3 with (fail)
 refine wp_region_keeps (by kernel_rfl) (by kernel_rfl) ?_
 repeat (go_big_quiet_step (first | with_reducible exact KW.of C1.out _ | with_reducible exact KW.of C2.out _ | with_reducible exact KW.of C3.out _ | with_reducible exact KW.of C4.out _ | with_reducible exact KW.of C5.out _ | with_reducible exact KW.of C6.out _ | with_reducible exact KW.of C7.out _ | with_reducible exact KW.of C8.out _))
 refine wpQuiet_nil ?_
 intro w5 k5
 have HK5 := Lib.hid k5
 clear x0 x1 y0 y1 y2 z0 z1 z2 lX lY lZ k5 q1 q2 q3 q4 C1 C3 C4 C5 C6 C7 C8
 go_upto_region 5 with (fail)
 go_cut [87] from 66 to 87 (fun v wx => v = .bool false ∧ Hid (Keeps [] w5 wx))
 case first =>
  have hY5 := HY.out.keep HK5.out (by simp)
  have hZ5 := HZ.out.keep HK5.out (by simp)
  have y0 : w5.cell? ⟨Y, 0, none⟩ = some (.int .i64 a.kind) := hY5.cell 0
  have y1 : w5.cell? ⟨Y, 1, none⟩ = some (.int .i64 a.num) := hY5.cell 1
  have y2 : w5.cell? ⟨Y, 2, none⟩ = some (.string (bs a.word)) := hY5.cell 2
  have z0 : w5.cell? ⟨Z, 0, none⟩ = some (.int .i64 b.kind) := hZ5.cell 0
  have z1 : w5.cell? ⟨Z, 1, none⟩ = some (.int .i64 b.num) := hZ5.cell 1
  have z2 : w5.cell? ⟨Z, 2, none⟩ = some (.string (bs b.word)) := hZ5.cell 2
  have lY := hY5.lt
  have lZ := hZ5.lt
  have D1 : Hid (∀ W, Keeps [] w5 W → Calls Tryz.prog 9 #[.agg #[.int .i64 a.kind, .int .i64 a.num, .string (bs a.word)]] W fun e W' => e = .returned (.bool ra) ∧ Keeps [] W W') := Lib.hid (fun W q => C2.out W (HK5.out.trans q))
  have D2 : Hid (∀ W, Keeps [] w5 W → Calls Tryz.prog 9 #[.agg #[.int .i64 b.kind, .int .i64 b.num, .string (bs b.word)]] W fun e W' => e = .returned (.bool rb) ∧ Keeps [] W W') := Lib.hid (fun W q => C2b.out W (HK5.out.trans q))
  clear hY5 hZ5
  cases ra with
  | false =>
   refine wp_region_keeps (by kernel_rfl) (by kernel_rfl) ?_
   repeat (go_big_quiet_step (first | with_reducible exact KW.of D1.out _))
   refine wpQuiet_nil ?_
   intro wx kx
   have HKX := Lib.hid kx
   go_wp2
   go_meet
   exact ⟨rfl, HKX⟩
  | true =>
   cases rb with
   | false =>
    refine wp_region_keeps (by kernel_rfl) (by kernel_rfl) ?_
    repeat (go_big_quiet_step (first | with_reducible exact KW.of D1.out _ | with_reducible exact KW.of D2.out _))
    refine wpQuiet_nil ?_
    intro wx kx
    have HKX := Lib.hid kx
    go_wp2
    go_meet
    exact ⟨rfl, HKX⟩
   | true =>
    obtain ⟨ls, hls⟩ : ∃ ls, lessB a b = ls := ⟨_, rfl⟩
    obtain ⟨u, hu⟩ : ∃ u, valueL a = u := ⟨_, rfl⟩
    have D3 : Hid (∀ W, Keeps [] w5 W → Calls Tryz.prog 16 #[.agg #[.int .i64 a.kind, .int .i64 a.num, .string (bs a.word)], .agg #[.int .i64 b.kind, .int .i64 b.num, .string (bs b.word)]] W fun e W' => e = .returned (.bool ls) ∧ Keeps [] W W') := Lib.hid (fun W _ => by rw [← hls]; exact less_any a b W)
    have D4 : Hid (∀ W, Keeps [] w5 W → Calls Tryz.prog 17 #[.agg #[.int .i64 a.kind, .int .i64 a.num, .string (bs a.word)], .agg #[.int .i64 b.kind, .int .i64 b.num, .string (bs b.word)]] W fun e W' => e = .returned (.bool ls) ∧ Keeps [] W W') := Lib.hid (fun W _ => by
     rw [← hls, ← rless_eq HRA.out HRB.out]
     exact rless_any a b (by have := HL.out; omega) (by have := HL.out; omega) W)
    have D5 : Hid (∀ W, Keeps [] w5 W → Calls Tryz.prog 18 #[.agg #[.int .i64 a.kind, .int .i64 a.num, .string (bs a.word)]] W fun e W' => e = .returned (.string (bs u)) ∧ Keeps [] W W') := Lib.hid (fun W q => by
     rw [← hu]
     exact value_any a HNA.out (by have := HL.out; omega) W (HE.out.quiet (HK.out.trans (HK5.out.trans q))))
    have D6 : Hid (∀ W, Keeps [] w5 W → Calls Tryz.prog 19 #[.agg #[.int .i64 a.kind, .int .i64 a.num, .string (bs a.word)]] W fun e W' => e = .returned (.string (bs u)) ∧ Keeps [] W W') := Lib.hid (fun W q => by
     rw [← hu]
     exact rValue_any a (okV_of HRA.out).1 HNA.out (by have := HL.out; omega) W (HE.out.quiet (HK.out.trans (HK5.out.trans q))))
    have q1 : (ls != ls) = false := by simp
    have q2 : (u == u) = true := by simp
    have q3 : (u != u) = false := by simp
    clear hls hu
    refine wp_region_keeps (by kernel_rfl) (by kernel_rfl) ?_
    repeat (go_big_quiet_step (first | with_reducible exact KW.of D1.out _ | with_reducible exact KW.of D2.out _ | with_reducible exact KW.of D3.out _ | with_reducible exact KW.of D4.out _ | with_reducible exact KW.of D5.out _ | with_reducible exact KW.of D6.out _))
    refine wpQuiet_nil ?_
    intro wx kx
    have HKX := Lib.hid kx
    go_wp2
    go_meet
    exact ⟨rfl, HKX⟩
 case rest =>
 obtain ⟨rfl, HK6⟩ := hcut
 obtain ⟨w6, rfl⟩ : ∃ z : World, z = wc := ⟨_, rfl⟩
 have HK46 := Lib.hid (HK5.out.trans HK6.out)
 have HX6 := Lib.hid (HX.out.keep HK46.out (by simp))
 have HW6 := Lib.hid (HK.out.trans HK46.out)
 have x0 : w6.cell? ⟨X, 0, none⟩ = some (.slice A t.cols.length c) := HX6.out.cell 0
 have x1 : w6.cell? ⟨X, 1, none⟩ = some (.slice B t.rows.length d) := HX6.out.cell 1
 clear HY HZ HX HK6 HK5 C2 C2b HRA HRB
 obtain ⟨xs, en, ev, hq1, hq2, hq3⟩ : ∃ (xs : Bs) (en : Int) (ev : Value), (∀ W, Keeps [] w6 W → Calls Tryz.prog 20 #[.agg #[.slice A t.cols.length c, .slice B t.rows.length d]] W fun e W' => e = .returned (.tuple #[.string (bs xs), .int .i64 en]) ∧ Keeps [] W W') ∧ (∀ W, Keeps [] w6 W → Calls Tryz.prog 21 #[.agg #[.slice A t.cols.length c, .slice B t.rows.length d]] W fun e W' => e = .returned (.tuple #[.string (bs xs), ev]) ∧ Keeps [] W W') ∧ (∀ W, Keeps [] w6 W → Calls Tryz.prog 22 #[ev, .int .i64 en] W fun e W' => e = .returned (.bool true) ∧ Keeps [] W W') := by
  cases hrt : rightB t with
  | true =>
   refine ⟨printL t, 0, .nilIface, fun W q => ?_, fun W q => print_yes t A B c d W (HTI.out W (HK46.out.trans q)) (HE.out.quiet (HW6.out.trans q)) hrt, fun W _ => bare_nil W⟩
   have h := HFT.out W (HK46.out.trans q)
   unfold rtRes at h
   rw [if_pos hrt] at h
   exact h
  | false =>
   refine ⟨[], 1, .iface 34 (.int .i64 1), fun W q => ?_, fun W q => print_no t A B c d W (HTI.out W (HK46.out.trans q)) hrt, fun W q => bare_errno 1 W (HR.out.keep (HW6.out.trans q) (by simp))⟩
   have h := HFT.out W (HK46.out.trans q)
   unfold rtRes at h
   rw [if_neg (by rw [hrt]; decide)] at h
   exact h
 have HQ1 := Lib.hid hq1
 have HQ2 := Lib.hid hq2
 have HQ3 := Lib.hid hq3
 have q2 : (xs == xs) = true := by simp
 have q3 : (xs != xs) = false := by simp
 clear hq1 hq2 hq3
 go_wp2_with fail
 refine (HQ1.out w6 (Keeps.refl _ _)).mono ?_
 rintro e w7 ⟨rfl, k7⟩
 have x0 : w7.cell? ⟨X, 0, none⟩ = some (.slice A t.cols.length c) := (HX6.out.keep k7 (by simp)).cell 0
 have x1 : w7.cell? ⟨X, 1, none⟩ = some (.slice B t.rows.length d) := (HX6.out.keep k7 (by simp)).cell 1
 have HK7 := Lib.hid k7
 clear k7
 go_wp2_with fail
 refine (HQ2.out w7 HK7.out).mono ?_
 rintro e w8 ⟨rfl, k8⟩
 have HK8 := Lib.hid (HK7.out.trans k8)
 clear k8 x0 x1
 go_wp2_with fail
 refine (HQ3.out w8 HK8.out).mono ?_
 rintro e w9 ⟨rfl, k9⟩
 have HW7 := Lib.hid (HW6.out.trans (HK8.out.trans k9))
 have hs1 : s.length ≤ 1500 := by have := HL.out; omega
 clear k9 HK7 HK8 HQ1 HQ2 HQ3 HX6 HW6 HK46 HFT HTI HRT
 obtain ⟨w7, rfl⟩ : ∃ z : World, z = w9 := ⟨_, rfl⟩
 obtain ⟨u, en2, ev2, hq1, hq2, hq3⟩ : ∃ (u : Vl) (en : Int) (ev : Value), (∀ W, Keeps [] w7 W → Calls Tryz.prog 23 #[.string (bs s)] W fun e W' => e = .returned (.tuple #[.agg #[.int .i64 u.kind, .int .i64 u.num, .string (bs u.word)], .int .i64 en]) ∧ Keeps [] W W') ∧ (∀ W, Keeps [] w7 W → Calls Tryz.prog 24 #[.string (bs s)] W fun e W' => e = .returned (.tuple #[.agg #[.int .i64 u.kind, .int .i64 u.num, .string (bs u.word)], ev]) ∧ Keeps [] W W') ∧ (∀ W, Keeps [] w7 W → Calls Tryz.prog 22 #[ev, .int .i64 en] W fun e W' => e = .returned (.bool true) ∧ Keeps [] W W') := by
  cases hpv : pvL s with
  | some u =>
   refine ⟨u, 0, .nilIface, fun W q => ?_, fun W q => ?_, fun W _ => bare_nil W⟩
   ·have h := rpval_any s (by omega) W (HE.out.quiet (HW7.out.trans q)) (HN.out.quiet (HW7.out.trans q))
    rw [hpv] at h
    exact h
   ·have h := parseValue_any s (by omega) W (HE.out.quiet (HW7.out.trans q))
    rw [hpv] at h
    exact h
  | none =>
   refine ⟨⟨0, 0, []⟩, 3, .iface 34 (.int .i64 3), fun W q => ?_, fun W q => ?_, fun W q => bare_errno 3 W (HR.out.keep (HW7.out.trans q) (by simp))⟩
   ·have h := rpval_any s (by omega) W (HE.out.quiet (HW7.out.trans q)) (HN.out.quiet (HW7.out.trans q))
    rw [hpv] at h
    exact h
   ·have h := parseValue_any s (by omega) W (HE.out.quiet (HW7.out.trans q))
    rw [hpv] at h
    exact h
 have HQ1 := Lib.hid hq1
 have HQ2 := Lib.hid hq2
 have HQ3 := Lib.hid hq3
 have hcm : ∀ W, (binOp .neq 27 (.agg #[.int .i64 u.kind, .int .i64 u.num, .string (bs u.word)]) (.agg #[.int .i64 u.kind, .int .i64 u.num, .string (bs u.word)])).run Tryz.prog W = .ok (.bool false) W := fun W => by have := vNeq u u W; simpa using this
 clear hq1 hq2 hq3
 go_wp2_with fail
 refine (HQ1.out w7 (Keeps.refl _ _)).mono ?_
 rintro e w8 ⟨rfl, k8⟩
 have b8 := Blk.new w8 27 #[.int .i64 u.kind, .int .i64 u.num, .string (bs u.word)]
 have k8a := k8.alloc (.cells #[.int .i64 u.kind, .int .i64 u.num, .string (bs u.word)] 27)
 have HB8 := Lib.hid b8
 have HK8 := Lib.hid k8a
 clear k8 b8 k8a
 go_wp2_with fail
 refine (HQ2.out _ HK8.out).mono ?_
 rintro e w9 ⟨rfl, k9⟩
 have b9 := Blk.new w9 27 #[.int .i64 u.kind, .int .i64 u.num, .string (bs u.word)]
 have hb8 := HB8.out.keep k9 (by simp)
 have HK9 := Lib.hid (HK8.out.trans k9)
 have ha9 := (Keeps.refl [] w9).alloc (.cells #[.int .i64 u.kind, .int .i64 u.num, .string (bs u.word)] 27)
 have hb8a := hb8.keep ha9 (by simp)
 have HBA := Lib.hid hb8a
 have HBB := Lib.hid b9
 have HKA := Lib.hid (HK9.out.trans ha9)
 clear k9 b9 hb8 hb8a ha9
 go_wp2_with fail
 refine (HQ3.out _ HKA.out).mono ?_
 rintro e w10 ⟨rfl, k10⟩
 have hA := HBA.out.keep k10 (by simp)
 have hB := HBB.out.keep k10 (by simp)
 have c0 : w10.cell? ⟨w8.heap.size, 0, none⟩ = some (.int .i64 u.kind) := hA.cell 0
 have c1 : w10.cell? ⟨w8.heap.size, 1, none⟩ = some (.int .i64 u.num) := hA.cell 1
 have c2 : w10.cell? ⟨w8.heap.size, 2, none⟩ = some (.string (bs u.word)) := hA.cell 2
 have d0 : w10.cell? ⟨w9.heap.size, 0, none⟩ = some (.int .i64 u.kind) := hB.cell 0
 have d1 : w10.cell? ⟨w9.heap.size, 1, none⟩ = some (.int .i64 u.num) := hB.cell 1
 have d2 : w10.cell? ⟨w9.heap.size, 2, none⟩ = some (.string (bs u.word)) := hB.cell 2
 have HW8 := Lib.hid (HW7.out.trans (HKA.out.trans k10))
 have HP1 := Lib.hid (parseTable_any s (by omega) w10 (HE.out.quiet HW8.out) (HN.out.quiet HW8.out))
 clear hA hB k10 HKA HBA HBB HK8 HK9 HB8 HQ1 HQ2 HQ3 HW7
 go_wp2_with fail
 clear c0 c1 c2 d0 d1 d2
 obtain ⟨w8, rfl⟩ : ∃ z : World, z = w10 := ⟨_, rfl⟩
 have P2 := Lib.hid (fun W (q : Keeps [] w8 W) => tparse_any s (by omega) W (HE.out.quiet (HW8.out.trans q)))
 refine HP1.out.mono ?_
 rintro e w9 ⟨ho, k9⟩
 cases hps : parseL s with
 | ok tt =>
  rw [hps] at ho P2
  obtain ⟨A1, B1, c1, d1, he, hti⟩ := ho
  obtain rfl : e = .returned (.tuple #[.agg #[.slice A1 tt.cols.length c1, .slice B1 tt.rows.length d1], .agg #[.int .i64 0, .int .i64 (-1)]]) := he
  have k9a := (Keeps.refl [] w9).alloc (.cells #[.slice A1 tt.cols.length c1, .slice B1 tt.rows.length d1] 25)
  have b15 := Blk.new w9 25 #[.slice A1 tt.cols.length c1, .slice B1 tt.rows.length d1]
  have hsz : (w9.alloc (.cells #[.slice A1 tt.cols.length c1, .slice B1 tt.rows.length d1] 25)).heap.size = w9.heap.size + 1 := Array.size_push _
  have b16 := Blk.new (w9.alloc (.cells #[.slice A1 tt.cols.length c1, .slice B1 tt.rows.length d1] 25)) 47 #[.int .i64 0, .int .i64 (-1)]
  have k9b := k9a.alloc (.cells #[.int .i64 0, .int .i64 (-1)] 47)
  have b15b := b15.alloc (.cells #[.int .i64 0, .int .i64 (-1)] 47)
  rw [hsz] at b16
  have H15 := Lib.hid b15b
  have H16 := Lib.hid b16
  have HTI := Lib.hid (hti.quiet k9b)
  have HK9 := Lib.hid (k9.trans k9b)
  clear hps hti k9 k9a k9b b15 b15b b16 hsz HP1
  go_wp2_with fail
  refine (P2.out _ HK9.out).mono ?_
  rintro e w10 ⟨ho, k10⟩
  obtain ⟨A2, B2, c2, d2, he, hti2⟩ := ho
  obtain rfl : e = .returned (.tuple #[.agg #[.slice A2 tt.cols.length c2, .slice B2 tt.rows.length d2], .nilIface]) := he
  have k10a := (Keeps.refl [] w10).alloc (.cells #[.slice A2 tt.cols.length c2, .slice B2 tt.rows.length d2] 25)
  have H17 := Lib.hid (Blk.new w10 25 #[.slice A2 tt.cols.length c2, .slice B2 tt.rows.length d2])
  have H15b := Lib.hid ((H15.out.keep k10 (by simp)).keep k10a (by simp))
  have H16b := Lib.hid ((H16.out.keep k10 (by simp)).keep k10a (by simp))
  have HT1 := Lib.hid ((HTI.out.quiet k10).quiet k10a)
  have HT2 := Lib.hid (hti2.quiet k10a)
  have HK10 := Lib.hid ((HK9.out.trans k10).trans k10a)
  have f0 : (w10.alloc (.cells #[.slice A2 tt.cols.length c2, .slice B2 tt.rows.length d2] 25)).cell? ⟨w9.heap.size + 1, 0, none⟩ = some (.int .i64 0) := H16b.out.cell 0
  have f1 : (w10.alloc (.cells #[.slice A2 tt.cols.length c2, .slice B2 tt.rows.length d2] 25)).cell? ⟨w9.heap.size + 1, 1, none⟩ = some (.int .i64 (-1)) := H16b.out.cell 1
  clear k10 k10a hti2 H15 H16 HTI
  go_wp2_with fail
  refine (is_nil _).mono ?_
  rintro e w11 ⟨rfl, k11⟩
  have g15 := H15b.out.keep k11 (by simp)
  have g17 := H17.out.keep k11 (by simp)
  have e0 : w11.cell? ⟨w9.heap.size, 0, none⟩ = some (.slice A1 tt.cols.length c1) := g15.cell 0
  have e1 : w11.cell? ⟨w9.heap.size, 1, none⟩ = some (.slice B1 tt.rows.length d1) := g15.cell 1
  have e2 : w11.cell? ⟨w10.heap.size, 0, none⟩ = some (.slice A2 tt.cols.length c2) := g17.cell 0
  have e3 : w11.cell? ⟨w10.heap.size, 1, none⟩ = some (.slice B2 tt.rows.length d2) := g17.cell 1
  have h1 := HT1.out.quiet k11
  have h2 := HT2.out.quiet k11
  have HS := Lib.hid (sameTable_any tt A2 B2 A1 B1 c2 d2 c1 d1 w11 ⟨h2.cols, h2.rows, h2.ln, h2.lm, h2.lr⟩ ⟨h1.cols, h1.rows, h1.ln, h1.lm, h1.lr⟩)
  have HK11 := Lib.hid (HW8.out.trans (HK10.out.trans k11))
  clear k11 g15 g17 h1 h2 f0 f1
  go_wp2_with fail
  refine HS.out.mono ?_
  rintro e w12 ⟨rfl, k12⟩
  go_wp2
  go_ret
  exact ⟨rfl, HK11.out.trans k12⟩
 | bad x p =>
  rw [hps] at ho P2
  obtain rfl : e = _ := ho
  have k9a := (Keeps.refl [] w9).alloc (.cells #[.slice none 0 0, .slice none 0 0] 25)
  have b15 := Blk.new w9 25 #[.slice none 0 0, .slice none 0 0]
  have hsz : (w9.alloc (.cells #[.slice none 0 0, .slice none 0 0] 25)).heap.size = w9.heap.size + 1 := Array.size_push _
  have b16 := Blk.new (w9.alloc (.cells #[.slice none 0 0, .slice none 0 0] 25)) 47 #[.int .i64 x, .int .i64 (p : Int)]
  have k9b := k9a.alloc (.cells #[.int .i64 x, .int .i64 (p : Int)] 47)
  have b15b := b15.alloc (.cells #[.int .i64 x, .int .i64 (p : Int)] 47)
  rw [hsz] at b16
  have H15 := Lib.hid b15b
  have H16 := Lib.hid b16
  have HK9 := Lib.hid (k9.trans k9b)
  clear hps k9 k9a k9b b15 b15b b16 hsz HP1
  go_wp2_with fail
  refine (P2.out _ HK9.out).mono ?_
  rintro e w10 ⟨ho, k10⟩
  obtain ⟨g, he, hg⟩ := ho
  obtain rfl : e = .returned (.tuple #[.agg #[.slice none 0 0, .slice none 0 0], .iface 136 (.pointer (some ⟨g, 0, none⟩))]) := he
  have k10a := (Keeps.refl [] w10).alloc (.cells #[.slice none 0 0, .slice none 0 0] 25)
  have H17 := Lib.hid (Blk.new w10 25 #[.slice none 0 0, .slice none 0 0])
  have H15b := Lib.hid ((H15.out.keep k10 (by simp)).keep k10a (by simp))
  have H16b := Lib.hid ((H16.out.keep k10 (by simp)).keep k10a (by simp))
  have HG := Lib.hid (hg.keep k10a (by simp))
  have HK10 := Lib.hid ((HK9.out.trans k10).trans k10a)
  have f0 : (w10.alloc (.cells #[.slice none 0 0, .slice none 0 0] 25)).cell? ⟨w9.heap.size + 1, 0, none⟩ = some (.int .i64 x) := H16b.out.cell 0
  have f1 : (w10.alloc (.cells #[.slice none 0 0, .slice none 0 0] 25)).cell? ⟨w9.heap.size + 1, 1, none⟩ = some (.int .i64 (p : Int)) := H16b.out.cell 1
  clear k10 k10a hg H15 H16
  go_wp2_with fail
  refine (is_at g x (p : Int) _ (HR.out.keep (HW8.out.trans HK10.out) (by simp)) HG.out).mono ?_
  rintro e w11 ⟨rfl, k11⟩
  have g15 := H15b.out.keep k11 (by simp)
  have g17 := H17.out.keep k11 (by simp)
  have e0 : w11.cell? ⟨w9.heap.size, 0, none⟩ = some (.slice none 0 0) := g15.cell 0
  have e1 : w11.cell? ⟨w9.heap.size, 1, none⟩ = some (.slice none 0 0) := g15.cell 1
  have e2 : w11.cell? ⟨w10.heap.size, 0, none⟩ = some (.slice none 0 0) := g17.cell 0
  have e3 : w11.cell? ⟨w10.heap.size, 1, none⟩ = some (.slice none 0 0) := g17.cell 1
  have hz : TabRd w11 ⟨[], []⟩ none none := ⟨Rd.nil, ⟨[], rfl, Rd.nil, fun i h => by simp at h⟩, Nat.zero_le _, Nat.zero_le _, fun r hr => by cases hr⟩
  have HS : Hid (Calls Tryz.prog 28 #[.agg #[.slice none 0 0, .slice none 0 0], .agg #[.slice none 0 0, .slice none 0 0]] w11 fun e w' => e = .returned (.bool true) ∧ Keeps [] w11 w') := Lib.hid (sameTable_any ⟨[], []⟩ none none none none 0 0 0 0 w11 hz hz)
  have HK11 := Lib.hid (HW8.out.trans (HK10.out.trans k11))
  clear k11 g15 g17 f0 f1 hz
  go_wp2_with fail
  refine HS.out.mono ?_
  rintro e w12 ⟨rfl, k12⟩
  go_wp2
  go_ret
  exact ⟨rfl, HK11.out.trans k12⟩
end Go.Proofs.YtpagiajlefejcaaGreatDoor
