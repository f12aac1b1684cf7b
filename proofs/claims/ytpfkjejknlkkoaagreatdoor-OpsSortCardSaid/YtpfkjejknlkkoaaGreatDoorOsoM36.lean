/- Tables opened. slices.IndexFunc and ContainsFunc over texts, with a predicate that is handed in by its contract. Arguments opened: jobs, slices of texts. -/
import Derived.Test.YtpfkjejknlkkoaaGreatDoorOsoM35
import Derived.Test.YtpfkjejknlkkoaaGreatDoorOsoM34
import Derived.Test.YtpfkjejknlkkoaaGreatDoorOsoM13
import Derived.Test.YtpfkjejknlkkoaaGreatDoorOsoM33
import Derived.Test.YtpfkjejknlkkoaaGreatDoorOsoM4
import Derived.Test.YtpfkjejknlkkoaaGreatDoorOsoM6
import Derived.Test.YtpfkjejknlkkoaaGreatDoorOsoM7
import Derived.SliceStrings
set_option linter.unusedSimpArgs false
set_option linter.unusedVariables false
namespace Go.Proofs.YtpfkjejknlkkoaaGreatDoor
open Go.RowKit Go.ChangeShapes Go.WideShapes Go.Joins
open Go.Deep (oneCellFields hone_of)
section
variable {H : Type} {enc : TypeId × Value → H} {w : World} {base b0 : Nat} {spare : Nat → Bool} {held : Bool} {v : Value} {d : DataW H} {p : List MemPlace} {r : Reach}
structure TabAny (w : World) (t : Tb) (A B : Option Addr) (c d : Nat) : Prop where
 cols : Rd w [] 2 A t.cols.length (csCells t.cols)
 cc : t.cols.length ≤ c
 rows : RdRows w [] B t.rows
 cd : t.rows.length ≤ d
 names : ∀ x ∈ t.cols, x.name.length ≤ maxLen
 vals : ∀ r ∈ t.rows, r.length ≤ maxLen ∧ ∀ v ∈ r, v.word.length ≤ maxLen ∧ numOk v.num
set_option maxRecDepth 100000 in
theorem open_table (hv : Value.okWide Tryz.prog w r b0 25 v) (h : DataW.Trod enc Tryz.prog w base spare held 25 v d p) : ∃ (t : Tb) (A B : Option Addr) (c c' : Nat), v = tAgg A t.cols.length c B t.rows.length c' ∧ TabAny w t A B c c' := by
 obtain ⟨v0, v1, y0, y1, n, rfl, _, _, h0, h1⟩ := open_agg2 Tryz.underlying25 (by kernel_rfl) (by kernel_rfl) hv h
 obtain ⟨A, c, l, e0, ha, _, hb, hn⟩ := open_cols h0
 obtain ⟨B, c', rs, e1, hc, _, hd, hr⟩ := open_rows h1
 injection e0 with e0
 injection e1 with e1
 subst e0 e1
 exact ⟨⟨l, rs⟩, A, B, c, c', rfl, hb, ha, hd, hc, hn, hr⟩
theorem TabAny.inn {w : World} {t : Tb} {A B : Option Addr} {c d : Nat} (h : TabAny w t A B c d) (hs : smallB t = true) : TabIn w t A B c d ∧ TabRd w t A B := by
 unfold smallB at hs
 simp only [Bool.and_eq_true, Bool.not_eq_true', Bool.or_eq_false_iff, decide_eq_false_iff_not, List.any_eq_false] at hs
 obtain ⟨⟨⟨h1, h2⟩, h3⟩, h4⟩ := hs
 have hr : ∀ r ∈ t.rows, r.length ≤ 4294967296 := fun r hr => by
  have := h4 r hr
  simp at this
  omega
 exact ⟨⟨h.cols, h.cc, h.rows, h.cd, fun x hx => by have := h3 x hx; simp at this; omega, by omega, by omega, hr⟩, ⟨h.cols, h.rows, by omega, by omega, hr⟩⟩
end
end Go.Proofs.YtpfkjejknlkkoaaGreatDoor
namespace Go.Proofs.YtpfkjejknlkkoaaGreatDoor
open Go.RowKit
attribute [local go_sem] bs_size bs_extract bs_append bs_toList
def PredS (k : Nat) (cap : Array Value) (p : Bs → Bool) (l : List Bs) (w : World) : Prop :=
 ∀ c ∈ l, ∀ W, Keeps [] w W → Calls Tryz.prog k (#[.string (bs c)] ++ cap) W fun e W' => e = .returned (.bool (p c)) ∧ Keeps [] W W'
set_option maxHeartbeats 2000000 in
theorem indexFuncS_any (k : Nat) (cap : Array Value) (he : ∀ args w, (callFunc k args).run Tryz.prog w = .ok (.enter k args) w) (p : Bs → Bool) (l : List Bs) (A : Option Addr) (c : Nat) (w : World) (hR : Rd w [] 1 A l.length (strs l)) (hl : l.length ≤ 4294967296) (hf : PredS k cap p l w) :
  Calls Tryz.prog 30 #[.slice A l.length c, .func (.func k) #[] cap] w fun e w' => e = .returned (.int .i64 (findIx p l)) ∧ Keeps [] w w' := by
 have HR := Lib.hid hR
 have HF := Lib.hid hf
 clear hR hf
 go_enter Tryz.func30, Tryz.ntmps30
 go_wp2
 go_loopw [8] (fun i wr => ∃ n : Nat, n ≤ l.length ∧ i = .int .i64 n ∧ Hid (∀ j (hj : j < n) (hl : j < l.length), p l[j] = false) ∧ Keeps [] w wr) (fun i _ => l.length - (intOf i).toNat)
 case atStart => exact ⟨0, Nat.zero_le _, rfl, fun j hj => absurd hj (by omega), Keeps.refl _ _⟩
 case round =>
  obtain ⟨n, hn, rfl, hno, hk⟩ := hrel
  by_cases hlt : n < l.length
  ·obtain ⟨b, o, rfl, _, hb, hc⟩ := (HR.out.keep hk).open' (by omega) (by omega)
   have d1 := hc n _ (strs_at' l n hlt)
   have HH := HF.out l[n] (List.getElem_mem hlt) wr hk
   generalize hx : l[n] = x at *
   have HX := Lib.hid hx
   have HH' := Lib.hid HH
   clear HH hc hx
   cases hp : p x with
   | true =>
    have hfin : findIx p l = (n : Int) := findIx_hit hlt (fun j hj => hno j hj (by omega)) ((congrArg p HX.out).trans hp)
    rw [hp] at HH'
    have HP := Lib.hid hfin
    clear hfin hp
    go_wp2_with fail
    refine HH'.out.mono ?_
    rintro e W2 ⟨rfl, hk2⟩
    go_wp2
    go_ret
    exact ⟨by rw [HP.out]; rfl, hk.trans hk2⟩
   | false =>
    have hno' : Hid (∀ j (hj : j < n + 1) (hl : j < l.length), p l[j] = false) := fun j hj hl => by
     by_cases h : j < n
     ·exact hno j h hl
     ·obtain rfl : j = n := by omega
      exact (congrArg p HX.out).trans hp
    rw [hp] at HH'
    clear hp
    go_wp2_with fail
    refine HH'.out.mono ?_
    rintro e W2 ⟨rfl, hk2⟩
    go_wp2
    go_roundw
    case rel => exact ⟨n + 1, by omega, by go_num, hno', hk.trans hk2⟩
    case measure => simp [intOf]; omega
  ·have hfin : Hid (findIx p l = -1) := findIx_none fun j hj => hno j (by omega) hj
   go_wp2
   go_ret
   exact ⟨by rw [hfin.out]; rfl, hk⟩
theorem containsFuncS_any (k : Nat) (cap : Array Value) (he : ∀ args w, (callFunc k args).run Tryz.prog w = .ok (.enter k args) w) (p : Bs → Bool) (l : List Bs) (A : Option Addr) (c : Nat) (w : World) (hR : Rd w [] 1 A l.length (strs l)) (hl : l.length ≤ 4294967296) (hf : PredS k cap p l w) :
  Calls Tryz.prog 14 #[.slice A l.length c, .func (.func k) #[] cap] w fun e w' => e = .returned (.bool (l.any p)) ∧ Keeps [] w w' := by
 have HC := Lib.hid (indexFuncS_any k cap he p l A c w hR hl hf)
 clear hR hf he
 rw [← findIx_any]
 go_enter Tryz.func14, Tryz.ntmps14
 go_wp2_with (go_at_call 30; refine HC.out.mono ?_; rintro e W2 ⟨rfl, hk2⟩)
 go_ret
 exact ⟨rfl, hk2⟩
end Go.Proofs.YtpfkjejknlkkoaaGreatDoor
namespace Go.Proofs.YtpfkjejknlkkoaaGreatDoor
open Go.RowKit Go.ChangeShapes Go.WideShapes Go.Joins
section
variable {H : Type} {enc : TypeId × Value → H} {w : World} {base b0 : Nat} {spare : Nat → Bool} {held : Bool} {fuel : Nat} {cs : List Value} {x : DataW H × List MemPlace}
theorem open_texts (h : DataW.trod enc Tryz.prog w base spare held fuel 30 cs = some x) :
  ∃ (A : Option Addr) (c : Nat) (l : List Bs), cs = [.slice A l.length c] ∧ l.length ≤ c ∧ c ≤ maxLen ∧ Rd w [] 1 A l.length (strs l) ∧ ∀ s ∈ l, s.length ≤ maxLen := by
 rcases open_strings Tryz.underlying30 Tryz.underlying9 (by kernel_rfl) h with ⟨hcs, _⟩ | ⟨a, len, cap, ss, hcs, _, hl, hcap, hlen, _, hcell, hw⟩
 ·exact ⟨none, 0, [], hcs, Nat.le_refl _, Nat.zero_le _, Rd.nil, by simp⟩
 ·have hsl : len ≤ ss.length := by rw [hlen]; split <;> omega
  have hml : ((ss.take len).map (·.data.toList)).length = len := by simp; omega
  refine ⟨some a, cap, (ss.take len).map (·.data.toList), by rw [hml]; exact hcs, by rw [hml]; exact hl, hcap, ⟨by rw [strs_length, Nat.mul_one], fun h0 => ⟨a, rfl, by simp, ?_, fun j u hu => ?_⟩⟩, fun s hs => ?_⟩
  ·have := World.block_lt_of_cell? _ _ (hcell 0 (by rw [hml] at h0; omega))
   rwa [block_add] at this
  ·unfold strs at hu
   rw [List.map_map, List.getElem?_map, Option.map_eq_some_iff] at hu
   obtain ⟨y, hy, rfl⟩ := hu
   rw [List.getElem?_take] at hy
   split at hy
   ·rename_i hj
    rw [hcell j (by omega), List.getD_eq_getElem?_getD, hy]
    rfl
   ·cases hy
  ·obtain ⟨y, hy, rfl⟩ := List.mem_map.1 hs
   have := hw y (List.mem_of_mem_take hy)
   exact this
end
structure JobAny (w : World) (j : Jb) (Ao : Option Addr) (co : Nat) (Ac : Option Addr) (cc : Nat) : Prop where
 outs : Rd w [] 1 Ao j.outs.length (strs j.outs)
 oc : j.outs.length ≤ co
 cols : Rd w [] 1 Ac j.cols.length (strs j.cols)
 cq : j.cols.length ≤ cc
 lo : co ≤ maxLen
 lc : cc ≤ maxLen
 names : ∀ s ∈ j.cols, s.length ≤ maxLen
 lop : j.op.length ≤ maxLen
 ll : j.left.col.length ≤ maxLen ∧ j.left.val.word.length ≤ maxLen ∧ numOk j.left.val.num
 lr : j.right.col.length ≤ maxLen ∧ j.right.val.word.length ≤ maxLen ∧ numOk j.right.val.num
section
variable {H : Type} {enc : TypeId × Value → H} {w : World} {base b0 : Nat} {spare : Nat → Bool} {held : Bool} {fuel : Nat} {v : Value} {d : DataW H} {p : List MemPlace} {r : Reach}
set_option maxRecDepth 100000 in
theorem open_arg {c0 c1 c2 c3 : Value} {y : DataW H × List MemPlace} (h : DataW.trod enc Tryz.prog w base spare held fuel 34 [c0, c1, c2, c3] = some y) : ∃ a : Ar, [c0, c1, c2, c3] = aCells a ∧ a.col.length ≤ maxLen ∧ a.val.word.length ≤ maxLen ∧ numOk a.val.num := by
 obtain ⟨xs, n, _, _, _, hxl, hg⟩ := DataW.trod_struct Tryz.underlying34 h
 match xs, hxl with
 | [y0, y1], _ =>
  have h0 : DataW.trod enc Tryz.prog w base spare held n 9 [c0] = some y0 := hg 0 _ rfl
  have h1 : DataW.trod enc Tryz.prog w base spare held n 32 [c1, c2, c3] = some y1 := hg 1 _ rfl
  obtain ⟨xs2, n2, _, _, _, hxl2, hg2⟩ := DataW.trod_struct Tryz.underlying32 h1
  match xs2, hxl2 with
  | [z0, z1, z2], _ =>
   have g0 : DataW.trod enc Tryz.prog w base spare held n2 3 [c1] = some z0 := hg2 0 _ rfl
   have g1 : DataW.trod enc Tryz.prog w base spare held n2 3 [c2] = some z1 := hg2 1 _ rfl
   have g2 : DataW.trod enc Tryz.prog w base spare held n2 9 [c3] = some z2 := hg2 2 _ rfl
   obtain ⟨s, e0, _, hs⟩ := DataW.trod_string Tryz.underlying9 h0
   obtain ⟨k, e1, _, _⟩ := DataW.trod_int Tryz.underlying3 g0
   obtain ⟨m, e2, _, hm⟩ := DataW.trod_int Tryz.underlying3 g1
   obtain ⟨u, e3, _, hu⟩ := DataW.trod_string Tryz.underlying9 g2
   injection e0 with e0
   injection e1 with e1
   injection e2 with e2
   injection e3 with e3
   subst e0 e1 e2 e3
   exact ⟨⟨s.data.toList, ⟨k, m, u.data.toList⟩⟩, rfl, hs, hu, num_of_wf hm⟩
set_option maxRecDepth 100000 in
theorem open_job (hv : Value.okWide Tryz.prog w r b0 36 v) (h : DataW.Trod enc Tryz.prog w base spare held 36 v d p) : ∃ (j : Jb) (Ao : Option Addr) (co : Nat) (Ai : Option Addr) (ni ci : Nat) (Ac : Option Addr) (cc : Nat), v = jAgg j Ao co Ai ni ci Ac cc ∧ JobAny w j Ao co Ac cc := by
 obtain ⟨cs, rfl, hsz⟩ := okWide_struct Tryz.underlying36 hv
 obtain ⟨l⟩ := cs
 have hsz' : l.length = 15 := hsz.trans (by kernel_rfl)
 match l, hsz' with
 | [c0, c1, c2, c3, c4, c5, c6, c7, c8, c9, c10, c11, c12, c13, c14], _ =>
  obtain ⟨fuel, hf⟩ := h
  obtain ⟨xs, n, _, _, _, hxl, hg⟩ := DataW.trod_struct Tryz.underlying36 hf
  match xs, hxl with
  | [y0, y1, y2, y3, y4, y5, y6, y7, y8], _ =>
   have h0 : DataW.trod enc Tryz.prog w base spare held n 3 [c0] = some y0 := hg 0 _ rfl
   have h1 : DataW.trod enc Tryz.prog w base spare held n 3 [c1] = some y1 := hg 1 _ rfl
   have h2 : DataW.trod enc Tryz.prog w base spare held n 30 [c2] = some y2 := hg 2 _ rfl
   have h3 : DataW.trod enc Tryz.prog w base spare held n 30 [c3] = some y3 := hg 3 _ rfl
   have h4 : DataW.trod enc Tryz.prog w base spare held n 30 [c4] = some y4 := hg 4 _ rfl
   have h5 : DataW.trod enc Tryz.prog w base spare held n 9 [c5] = some y5 := hg 5 _ rfl
   have h6 : DataW.trod enc Tryz.prog w base spare held n 34 [c6, c7, c8, c9] = some y6 := hg 6 _ rfl
   have h7 : DataW.trod enc Tryz.prog w base spare held n 34 [c10, c11, c12, c13] = some y7 := hg 7 _ rfl
   have h8 : DataW.trod enc Tryz.prog w base spare held n 3 [c14] = some y8 := hg 8 _ rfl
   obtain ⟨k0, e0, _, _⟩ := DataW.trod_int Tryz.underlying3 h0
   obtain ⟨k1, e1, _, _⟩ := DataW.trod_int Tryz.underlying3 h1
   obtain ⟨Ao, co, lo, e2, ho1, ho2, ho3, _⟩ := open_texts h2
   obtain ⟨Ai, ci, li, e3, _, _, _, _⟩ := open_texts h3
   obtain ⟨Ac, cc, lc, e4, hc1, hc2, hc3, hc4⟩ := open_texts h4
   obtain ⟨s5, e5, _, hs5⟩ := DataW.trod_string Tryz.underlying9 h5
   obtain ⟨a6, e6, h61, h62, h63⟩ := open_arg h6
   obtain ⟨a7, e7, h71, h72, h73⟩ := open_arg h7
   obtain ⟨k8, e8, _, _⟩ := DataW.trod_int Tryz.underlying3 h8
   injection e0 with e0
   injection e1 with e1
   injection e2 with e2
   injection e3 with e3
   injection e4 with e4
   injection e5 with e5
   injection e8 with e8
   simp only [aCells, List.cons.injEq, and_true] at e6 e7
   obtain ⟨e60, e61, e62, e63⟩ := e6
   obtain ⟨e70, e71, e72, e73⟩ := e7
   subst e0 e1 e2 e3 e4 e5 e8 e60 e61 e62 e63 e70 e71 e72 e73
   exact ⟨⟨k0, k1, lo, li, lc, s5.data.toList, a6, a7, k8⟩, Ao, co, Ai, li.length, ci, Ac, cc, rfl, ⟨ho3, ho1, hc3, hc1, ho2, hc2, hc4, hs5, ⟨h61, h62, h63⟩, ⟨h71, h72, h73⟩⟩⟩
end
end Go.Proofs.YtpfkjejknlkkoaaGreatDoor
