/- Slices of texts. -/
import Derived.Test.YtodjaomghmcoiaaGreatDoorProg
import Derived.Test.YtodjaomghmcoiaaGreatDoorBase
namespace Go.Proofs.YtodjaomghmcoiaaGreatDoor
open Go.RowKit
def strs (l : List Bs) : List Value := l.map fun s => .string (bs s)
theorem strs_length (l : List Bs) : (strs l).length = l.length := by simp [strs]
theorem strs_at' (l : List Bs) (k : Nat) (h : k < l.length) : (strs l)[k]? = some (.string (bs l[k])) := by simp [strs, h]
theorem strs_snoc (l : List Bs) (s : Bs) : strs (l ++ [s]) = strs l ++ [.string (bs s)] := by simp [strs]
theorem strs_oneCell (l : List Bs) : ∀ u ∈ strs l, u.oneCell' = true := by
  intro u hu
  obtain ⟨s, _, rfl⟩ := List.mem_map.1 hu
  rfl
theorem sinfo : (Tryz.prog.info? 9).map (fun i => (i.zero, i.size, i.bytes)) = some (some (.string ⟨#[]⟩), 1, 16) := by kernel_rfl
theorem slice_str {P : Program} {T : TypeId} (hT : P.underlying T = some .string) (s : Bs) (lo hi : Nat) (h1 : lo ≤ hi) (h2 : hi ≤ s.length) (W : World) :
    (Instr.slice T (.string (bs s)) (some (.int .i64 (lo : Int))) (some (.int .i64 (hi : Int))) none).run P W = .ok (.string (bs ((s.take hi).drop lo))) W := by
  have h3 : (lo : Int) ≤ (hi : Int) := by omega
  have h4 : (hi : Int) ≤ (s.length : Int) := by omega
  have e : (bs s).extract lo hi = bs ((s.take hi).drop lo) := bs_extract s lo hi
  rw [← e]
  have h5 : hi ≤ (bs s).size := by rw [bs_size]; exact h2
  have h6 : (hi : Int) ≤ ((bs s).size : Int) := by rw [bs_size]; exact h4
  go_simp
end Go.Proofs.YtodjaomghmcoiaaGreatDoor
