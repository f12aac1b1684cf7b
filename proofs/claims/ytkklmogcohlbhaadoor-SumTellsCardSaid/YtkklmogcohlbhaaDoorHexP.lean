/- Hexadecimal digits, plain. -/
import Derived.Test.YtkklmogcohlbhaaDoorBase
import Derived.Laws.BitsAllLaws
namespace Go.Proofs.YtkklmogcohlbhaaDoor
def hexD : Bs := [48, 49, 50, 51, 52, 53, 54, 55, 56, 57, 97, 98, 99, 100, 101, 102]
/-- A byte in two digits; a text. -/
def hex2 (b : UInt8) : Bs := [hexD.getD (b.toNat / 16) 0, hexD.getD (b.toNat % 16) 0]
def hexL (s : Bs) : Bs := s.flatMap hex2
theorem hexL_snoc (s : Bs) (b : UInt8) : hexL (s ++ [b]) = hexL s ++ hex2 b := by simp [hexL]
theorem hexL_length (s : Bs) : (hexL s).length = 2 * s.length := by
  induction s with
  | nil => rfl
  | cons b s ih => simp only [hexL, List.flatMap_cons, List.length_append, List.length_cons] at ih ⊢; rw [ih]; simp [hex2]; omega
end Go.Proofs.YtkklmogcohlbhaaDoor
