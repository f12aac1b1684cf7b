/- ops: Sizes. Slices of texts. -/
import Derived.Test.YtpfkjejknlkkoaaGreatDoorOsoM5
import Derived.Test.YtpfkjejknlkkoaaGreatDoorProg
import Derived.Test.YtpfkjejknlkkoaaGreatDoorOsoM1
set_option linter.unusedSimpArgs false
set_option linter.unusedVariables false
namespace Go.Proofs.YtpfkjejknlkkoaaGreatDoor
open Go.RowKit Go.BigFrame
attribute [local go_sem] bs_size bs_extract bs_append bs_toList
attribute [local go_sem] KW.cell
set_option maxHeartbeats 2000000 in
theorem sizes_any (code : Int) (w : World) : Calls Tryz.prog 57 #[.int .i64 code] w fun e w' => e = .returned (.tuple #[.int .i64 ((sizesN code).1 : Int), .int .i64 ((sizesN code).2 : Int)]) ∧ w = w' := by
 obtain ⟨R, hR⟩ : ∃ R, sizesN code = R := ⟨_, rfl⟩
 rw [hR]
 have HR := Lib.hid hR
 clear hR
 by_cases h5 : code = 5
 ·subst h5
  have HF : Hid (R = (2, 1)) := Lib.hid (HR.out.symm.trans (by decide))
  clear HR
  go_enter Tryz.func57, Tryz.ntmps57
  go_wp2
  go_ret2
  exact ⟨by rw [HF.out]; rfl, rfl⟩
 ·have t5 : (code == 5) = false := by rw [beq_eq_false_iff_ne]; exact h5
  by_cases h7 : code = 7
  ·subst h7
   have HF : Hid (R = (2, 1)) := Lib.hid (HR.out.symm.trans (by decide))
   clear HR
   go_enter Tryz.func57, Tryz.ntmps57
   go_wp2
   go_ret2
   exact ⟨by rw [HF.out]; rfl, rfl⟩
  ·have t7 : (code == 7) = false := by rw [beq_eq_false_iff_ne]; exact h7
   by_cases h9 : code = 9
   ·subst h9
    have HF : Hid (R = (1, 2)) := Lib.hid (HR.out.symm.trans (by decide))
    clear HR
    go_enter Tryz.func57, Tryz.ntmps57
    go_wp2
    go_ret2
    exact ⟨by rw [HF.out]; rfl, rfl⟩
   ·have t9 : (code == 9) = false := by rw [beq_eq_false_iff_ne]; exact h9
    by_cases h1 : code = 1
    ·subst h1
     have HF : Hid (R = (1, 1)) := Lib.hid (HR.out.symm.trans (by decide))
     clear HR
     go_enter Tryz.func57, Tryz.ntmps57
     go_wp2
     go_ret2
     exact ⟨by rw [HF.out]; rfl, rfl⟩
    ·have t1 : (code == 1) = false := by rw [beq_eq_false_iff_ne]; exact h1
     by_cases h2 : code = 2
     ·subst h2
      have HF : Hid (R = (1, 1)) := Lib.hid (HR.out.symm.trans (by decide))
      clear HR
      go_enter Tryz.func57, Tryz.ntmps57
      go_wp2
      go_ret2
      exact ⟨by rw [HF.out]; rfl, rfl⟩
     ·have t2 : (code == 2) = false := by rw [beq_eq_false_iff_ne]; exact h2
      by_cases h3 : code = 3
      ·subst h3
       have HF : Hid (R = (1, 1)) := Lib.hid (HR.out.symm.trans (by decide))
       clear HR
       go_enter Tryz.func57, Tryz.ntmps57
       go_wp2
       go_ret2
       exact ⟨by rw [HF.out]; rfl, rfl⟩
      ·have t3 : (code == 3) = false := by rw [beq_eq_false_iff_ne]; exact h3
       by_cases h4 : code = 4
       ·subst h4
        have HF : Hid (R = (1, 1)) := Lib.hid (HR.out.symm.trans (by decide))
        clear HR
        go_enter Tryz.func57, Tryz.ntmps57
        go_wp2
        go_ret2
        exact ⟨by rw [HF.out]; rfl, rfl⟩
       ·have t4 : (code == 4) = false := by rw [beq_eq_false_iff_ne]; exact h4
        by_cases h6 : code = 6
        ·subst h6
         have HF : Hid (R = (1, 1)) := Lib.hid (HR.out.symm.trans (by decide))
         clear HR
         go_enter Tryz.func57, Tryz.ntmps57
         go_wp2
         go_ret2
         exact ⟨by rw [HF.out]; rfl, rfl⟩
        ·have t6 : (code == 6) = false := by rw [beq_eq_false_iff_ne]; exact h6
         by_cases h8 : code = 8
         ·subst h8
          have HF : Hid (R = (1, 1)) := Lib.hid (HR.out.symm.trans (by decide))
          clear HR
          go_enter Tryz.func57, Tryz.ntmps57
          go_wp2
          go_ret2
          exact ⟨by rw [HF.out]; rfl, rfl⟩
         ·have t8 : (code == 8) = false := by rw [beq_eq_false_iff_ne]; exact h8
          have HF : Hid (R = (0, 0)) := Lib.hid (HR.out.symm.trans (by unfold sizesN; rw [if_neg (by omega), if_neg (by omega), if_neg (by omega)]))
          clear HR h5 h7 h9 h1 h2 h3 h4 h6 h8
          go_enter Tryz.func57, Tryz.ntmps57
          go_wp2
          go_ret2
          exact ⟨by rw [HF.out]; rfl, rfl⟩
end Go.Proofs.YtpfkjejknlkkoaaGreatDoor
namespace Go.Proofs.YtpfkjejknlkkoaaGreatDoor
open Go.RowKit
def strs (l : List Bs) : List Value := l.map fun s => .string (bs s)
theorem strs_length (l : List Bs) : (strs l).length = l.length := by simp [strs]
theorem strs_at' (l : List Bs) (k : Nat) (h : k < l.length) : (strs l)[k]? = some (.string (bs l[k])) := by simp [strs, h]
theorem strs_snoc (l : List Bs) (s : Bs) : strs (l ++ [s]) = strs l ++ [.string (bs s)] := by simp [strs]
theorem sinfo : (Tryz.prog.info? 9).map (fun i => (i.zero, i.size, i.bytes)) = some (some (.string ⟨#[]⟩), 1, 16) := by kernel_rfl
theorem slice_str {P : Program} {T : TypeId} (hT : P.underlying T = some .string) (s : Bs) (lo hi : Nat) (h1 : lo ≤ hi) (h2 : hi ≤ s.length) (W : World) :
  (Instr.slice T (.string (bs s)) (some (.int .i64 (lo : Int))) (some (.int .i64 (hi : Int))) none).run P W = .ok (.string (bs ((s.take hi).drop lo))) W := by
 have h3 : (lo : Int) ≤ (hi : Int) := by omega
 have h4 : (hi : Int) ≤ (s.length : Int) := by omega
 have e : (bs s).extract lo hi = bs ((s.take hi).drop lo) := bs_extract s lo hi
 rw [← e]
 have h5 : hi ≤ (bs s).size := by rw [bs_size]; exact h2
 have h6 : (hi : Int) ≤ ((bs s).size : Int) := by rw [bs_size]; exact h4
 go_simp
end Go.Proofs.YtpfkjejknlkkoaaGreatDoor
