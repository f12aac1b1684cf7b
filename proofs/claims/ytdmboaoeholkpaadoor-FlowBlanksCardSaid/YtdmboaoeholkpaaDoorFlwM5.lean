/- Tables as plain data, and what they are in memory. -/
import Derived.Test.YtdmboaoeholkpaaDoorProg
import Derived.Test.YtdmboaoeholkpaaDoorFlwM1
namespace Go.Proofs.YtdmboaoeholkpaaDoor
open Go.RowKit
def vCells (v : Vl) : List Value := [.int .i64 v.kind, .int .i64 v.num, .string (bs v.word)]
def cCells (c : Cl) : List Value := [.string (bs c.name), .int .i64 c.kind]
def vAgg (v : Vl) : Value := .agg #[.int .i64 v.kind, .int .i64 v.num, .string (bs v.word)]
def cAgg (c : Cl) : Value := .agg #[.string (bs c.name), .int .i64 c.kind]
def vsCells (l : List Vl) : List Value := l.flatMap vCells
def csCells (l : List Cl) : List Value := l.flatMap cCells
theorem vsCells_length (l : List Vl) : (vsCells l).length = l.length * 3 := by
  induction l with
  | nil => rfl
  | cons p l ih => simp [vsCells, vCells] at ih ⊢; omega
theorem csCells_length (l : List Cl) : (csCells l).length = l.length * 2 := by
  induction l with
  | nil => rfl
  | cons p l ih => simp [csCells, cCells] at ih ⊢; omega
theorem vsCells_append (l m : List Vl) : vsCells (l ++ m) = vsCells l ++ vsCells m := by simp [vsCells]
theorem csCells_append (l m : List Cl) : csCells (l ++ m) = csCells l ++ csCells m := by simp [csCells]
theorem vsCells_at (l : List Vl) (k : Nat) (h : k < l.length) : (vsCells l)[k * 3]? = some (.int .i64 l[k].kind) ∧ (vsCells l)[k * 3 + 1]? = some (.int .i64 l[k].num) ∧ (vsCells l)[k * 3 + 2]? = some (.string (bs l[k].word)) := by
  induction l generalizing k with
  | nil => simp at h
  | cons p l ih =>
    rcases k with _ | k
    · simp [vsCells, vCells]
    · have := ih k (by simpa using h)
      simpa [vsCells, vCells, Nat.succ_mul] using this
theorem csCells_at (l : List Cl) (k : Nat) (h : k < l.length) : (csCells l)[k * 2]? = some (.string (bs l[k].name)) ∧ (csCells l)[k * 2 + 1]? = some (.int .i64 l[k].kind) := by
  induction l generalizing k with
  | nil => simp at h
  | cons p l ih =>
    rcases k with _ | k
    · simp [csCells, cCells]
    · have := ih k (by simpa using h)
      simpa [csCells, cCells, Nat.succ_mul] using this
/-- A row of values, as a slice. -/
def RowIs (w : World) (L : List Nat) (u : Value) (r : List Vl) : Prop := ∃ A c, u = .slice A r.length c ∧ r.length ≤ c ∧ Rd w L 3 A r.length (vsCells r)
/-- The slice of address A and n elements holds these rows. -/
def RdRows (w : World) (L : List Nat) (A : Option Addr) (rs : List (List Vl)) : Prop :=
  ∃ us : List Value, us.length = rs.length ∧ Rd w L 1 A rs.length us ∧ ∀ i (h : i < us.length) (h' : i < rs.length), RowIs w L us[i] rs[i]
section
variable {w w' : World} {L L' : List Nat} {A : Option Addr} {rs : List (List Vl)} {u : Value} {r : List Vl}
theorem RowIs.keep (h : RowIs w L u r) (hk : Keeps L w w') : RowIs w' L u r := by
  obtain ⟨A, c, e, hc, h⟩ := h
  exact ⟨A, c, e, hc, h.keep hk⟩
theorem RdRows.keep (h : RdRows w L A rs) (hk : Keeps L w w') : RdRows w' L A rs := by
  obtain ⟨us, h1, h2, h3⟩ := h
  exact ⟨us, h1, h2.keep hk, fun i a b => (h3 i a b).keep hk⟩
end
end Go.Proofs.YtdmboaoeholkpaaDoor
