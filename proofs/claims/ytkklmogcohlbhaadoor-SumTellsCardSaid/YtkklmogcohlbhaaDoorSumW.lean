/- SumTells: the walk. -/
import Derived.Test.YtkklmogcohlbhaaDoorSumT
import Derived.Test.YtkklmogcohlbhaaDoorHexR
namespace Go.Proofs.YtkklmogcohlbhaaDoor
open Go.RowKit Go.BigFrame
theorem bs_beq' (a : Bs) : (bs a == bs a) = true := by
  show (a.toArray == a.toArray) = true
  simp
theorem stells_all (s : Bs) (w : World) (hR : ∀ j, j < 64 → w.cell? ⟨0, j, none⟩ = some (.int .u32 (kt j))) (ht : w.cell? ⟨3, 15, none⟩ = some (.int .u8 4)) :
    Calls Tryd.prog 3 #[.string (bs s)] w fun e w' => e = .returned (.bool true) ∧ Keeps [] w w' := by
  have hbz : (bs s).size = s.length := bs_size s
  by_cases hs : s.length ≤ 400
  · have HS := Lib.hid (sum_any s (by omega) w hR)
    have HRS := Lib.hid (fun W => rsum_any s hs W)
    have HX := Lib.hid (fun W => hex_any s hs W)
    have HRX := Lib.hid (fun W (k : Keeps [] w W) => rhex_any s hs W (k.cell_of ht (by simp)))
    have h40 : ¬ (400 : Int) < (s.length : Int) := by omega
    clear hR ht hs
    have e1 := bs_beq' (shaL s)
    have e2 := bs_beq' (hexL s)
    generalize bs (shaL s) = S at *
    generalize bs (hexL s) = X at *
    generalize bs s = z at *
    go_enter Tryd.func3, Tryd.ntmps3
    go_wp2_with fail
    refine HS.out.mono ?_
    rintro e w1 ⟨rfl, k1⟩
    go_wp2_with fail
    refine (HRS.out w1).mono ?_
    rintro e w2 ⟨rfl, k2⟩
    go_wp2_with fail
    refine (HX.out w2).mono ?_
    rintro e w3 ⟨rfl, k3⟩
    go_wp2_with fail
    refine (HRX.out w3 ((k1.trans k2).trans k3)).mono ?_
    rintro e w4 ⟨rfl, k4⟩
    go_wp2
    go_ret
    exact ⟨rfl, ((k1.trans k2).trans k3).trans k4⟩
  · have h40 : (400 : Int) < (s.length : Int) := by omega
    clear hR ht hs
    generalize bs s = z at *
    go_enter Tryd.func3, Tryd.ntmps3
    go_wp2
    go_ret
    exact ⟨rfl, Keeps.refl _ _⟩
end Go.Proofs.YtkklmogcohlbhaaDoor
