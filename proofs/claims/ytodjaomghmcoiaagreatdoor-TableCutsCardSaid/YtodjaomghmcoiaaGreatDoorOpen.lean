/- Tables opened. -/
import Derived.Test.YtodjaomghmcoiaaGreatDoorOpenV
import Derived.Test.YtodjaomghmcoiaaGreatDoorSame
import Derived.Test.YtodjaomghmcoiaaGreatDoorPrint
namespace Go.Proofs.YtodjaomghmcoiaaGreatDoor
open Go.RowKit Go.ChangeShapes Go.WideShapes Go.Joins
open Go.Deep (oneCellFields hone_of)
section
variable {H : Type} {enc : TypeId × Value → H} {w : World} {base b0 : Nat} {spare : Nat → Bool} {held : Bool} {v : Value} {d : DataW H} {p : List MemPlace} {r : Reach}
/-- Whatever table is handed in. -/
structure TabAny (w : World) (t : Tb) (A B : Option Addr) (c d : Nat) : Prop where
  cols : Rd w [] 2 A t.cols.length (csCells t.cols)
  cc : t.cols.length ≤ c
  rows : RdRows w [] B t.rows
  cd : t.rows.length ≤ d
  names : ∀ x ∈ t.cols, x.name.length ≤ maxLen
  vals : ∀ r ∈ t.rows, r.length ≤ maxLen ∧ ∀ v ∈ r, v.word.length ≤ maxLen ∧ numOk v.num
set_option maxRecDepth 100000 in
theorem open_table (hv : Value.okWide Tryz.prog w r b0 25 v) (h : DataW.Trod enc Tryz.prog w base spare held 25 v d p) : ∃ (t : Tb) (A B : Option Addr) (c c' : Nat), v = tAgg A t.cols.length c B t.rows.length c' ∧ TabAny w t A B c c' := by
  obtain ⟨v0, v1, y0, y1, n, rfl, _, _, h0, h1⟩ := open_agg2 Tryz.underlying25 (by kernel_rfl) (by kernel_rfl) hv h
  obtain ⟨A, c, l, e0, ha, _, hb, hn⟩ := open_cols h0
  obtain ⟨B, c', rs, e1, hc, _, hd, hr⟩ := open_rows h1
  injection e0 with e0
  injection e1 with e1
  subst e0 e1
  exact ⟨⟨l, rs⟩, A, B, c, c', rfl, hb, ha, hd, hc, hn, hr⟩
theorem TabAny.inn {w : World} {t : Tb} {A B : Option Addr} {c d : Nat} (h : TabAny w t A B c d) (hs : smallB t = true) : TabIn w t A B c d ∧ TabRd w t A B := by
  unfold smallB at hs
  simp only [Bool.and_eq_true, Bool.not_eq_true', Bool.or_eq_false_iff, decide_eq_false_iff_not, List.any_eq_false] at hs
  obtain ⟨⟨⟨h1, h2⟩, h3⟩, h4⟩ := hs
  have hr : ∀ r ∈ t.rows, r.length ≤ 4294967296 := fun r hr => by
    have := h4 r hr
    simp at this
    omega
  exact ⟨⟨h.cols, h.cc, h.rows, h.cd, fun x hx => by have := h3 x hx; simp at this; omega, by omega, by omega, hr⟩, ⟨h.cols, h.rows, by omega, by omega, hr⟩⟩
end
end Go.Proofs.YtodjaomghmcoiaaGreatDoor
