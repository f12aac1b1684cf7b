/- (but holds) ops: find, holds, kind, Sizes, arg. ops: Sizes. -/
import Derived.Test.YtnjjajanfedjiaaGreatDoorPtuM2
import Derived.Test.YtnjjajanfedjiaaGreatDoorPtuM17
import Derived.Test.YtnjjajanfedjiaaGreatDoorPtuM25
import Derived.Test.YtnjjajanfedjiaaGreatDoorPtuM3
set_option linter.unusedSimpArgs false
set_option linter.unusedVariables false
namespace Go.Proofs.YtnjjajanfedjiaaGreatDoor
open Go.RowKit Go.BigFrame
attribute [local go_sem] bs_size bs_extract bs_append bs_toList
attribute [local go_sem] KW.cell
def aAgg (a : Ar) : Value := .agg #[.string (bs a.col), .int .i64 a.val.kind, .int .i64 a.val.num, .string (bs a.val.word)]
def optI : Option Nat → Int
 | some i => (i : Int)
 | none => -1
theorem findIxC_col (l : List Cl) (nm : Bs) : findIxC (fun c => c.name == nm) l = optI (colIx l nm) := by
 unfold findIxC colIx optI
 split <;> rename_i h <;> rw [h]
theorem isName_any (nm : Bs) (d : Cl) (b : Nat) (w : World) (hb : w.cell? ⟨b, 0, none⟩ = some (.string (bs nm))) :
  Calls Tryz.prog 168 #[cAgg d, .pointer (some ⟨b, 0, none⟩)] w fun e w' => e = .returned (.bool (d.name == nm)) ∧ Keeps [] w w' := by
 have hlt := World.block_lt_of_cell? _ _ hb
 have hb' : (w.alloc (.cells #[.string (bs d.name), .int .i64 d.kind] 61)).cell? ⟨b, 0, none⟩ = some (.string (bs nm)) := ((Keeps.refl [] w).alloc _).cell_of hb (by simp)
 have hk : Keeps [] w (w.alloc (.cells #[.string (bs d.name), .int .i64 d.kind] 61)) := (Keeps.refl [] w).alloc _
 have HK := Lib.hid hk
 clear hk
 show Calls _ _ #[.agg #[.string (bs d.name), .int .i64 d.kind], .pointer (some ⟨b, 0, none⟩)] w _
 go_enter Tryz.func168, Tryz.ntmps168
 go_wp2
 go_ret
 exact ⟨rfl, HK.out⟩
theorem find_any (l : List Cl) (nm : Bs) (A : Option Addr) (c : Nat) (w : World) (hA : Rd w [] 2 A l.length (csCells l)) (hl : l.length ≤ 4294967296) :
  Calls Tryz.prog 136 #[.slice A l.length c, .string (bs nm)] w fun e w' => e = .returned (.int .i64 (optI (colIx l nm))) ∧ Keeps [] w w' := by
 have hk : Keeps [] w (w.alloc (.cells #[.string (bs nm)] 9)) := (Keeps.refl [] w).alloc _
 have hc : (w.alloc (.cells #[.string (bs nm)] 9)).cell? ⟨w.heap.size, 0, none⟩ = some (.string (bs nm)) := (Blk.new _ _ _).cell 0
 have h := indexFuncC_any 168 #[.pointer (some ⟨w.heap.size, 0, none⟩)] (enters_of Tryz.func168 (by kernel_rfl) rfl) (fun c => c.name == nm) l A c (w.alloc (.cells #[.string (bs nm)] 9)) (hA.keep hk) hl (fun d _ W q => isName_any nm d _ W (q.cell_of hc (by simp)))
 rw [findIxC_col] at h
 have H := Lib.hid h
 have HK := Lib.hid hk
 clear h hk hc hA
 generalize optI (colIx l nm) = r at *
 go_enter Tryz.func136, Tryz.ntmps136
 go_wp2_with fail
 refine H.out.mono ?_
 rintro e w2 ⟨rfl, hk2⟩
 go_wp2
 go_ret
 exact ⟨rfl, HK.out.trans hk2⟩
theorem vNeqZ (b : Vl) (W : World) : (binOp .neq 41 (.agg #[.int .i64 b.kind, .int .i64 b.num, .string (bs b.word)]) (.agg #[.int .i64 0, .int .i64 0, .string ⟨#[]⟩])).run Tryz.prog W = .ok (.bool (!decide (b = zV))) W := vNeq b zV W
set_option maxHeartbeats 2000000 in
theorem kind_any (a : Ar) (l : List Cl) (A : Option Addr) (c : Nat) (w : World) (hA : Rd w [] 2 A l.length (csCells l)) (hl : l.length ≤ 4294967296) :
  Calls Tryz.prog 137 #[aAgg a, .slice A l.length c] w fun e w' => e = .returned (.int .i64 (kindI a l)) ∧ Keeps [] w w' := by
 obtain ⟨nm, v⟩ := a
 show Calls _ _ #[.agg #[.string (bs nm), .int .i64 v.kind, .int .i64 v.num, .string (bs v.word)], .slice A l.length c] w _
 have hk0 : Keeps [] w (w.alloc (.cells #[.string (bs nm), .int .i64 v.kind, .int .i64 v.num, .string (bs v.word)] 43)) := (Keeps.refl [] w).alloc _
 have HK0 := Lib.hid hk0
 have HRV := Lib.hid (fun W => rightValue_any v W)
 have HF := Lib.hid (fun W (q : Keeps [] w W) => find_any l nm A c W (hA.keep q) hl)
 have HA := Lib.hid hA
 obtain ⟨R, hR⟩ : ∃ R, kindI ⟨nm, v⟩ l = R := ⟨_, rfl⟩
 rw [hR]
 have HR := Lib.hid hR
 clear hk0 hA hR
 cases nm with
 | nil =>
  have HR2 : Hid (R = if rvB v then v.kind else 0) := Lib.hid (by rw [← HR.out]; unfold kindI; rw [if_pos rfl])
  clear HR
  cases hr : rvB v with
  | false =>
   rw [hr] at HRV HR2
   clear hr
   go_enter Tryz.func137, Tryz.ntmps137
   go_wp2_with fail
   refine (HRV.out _).mono ?_
   rintro e w2 ⟨rfl, hk2⟩
   go_wp2
   go_ret
   exact ⟨by rw [HR2.out]; rfl, HK0.out.trans hk2⟩
  | true =>
   rw [hr] at HRV HR2
   clear hr
   go_enter Tryz.func137, Tryz.ntmps137
   go_wp2_with fail
   refine (HRV.out _).mono ?_
   rintro e w2 ⟨rfl, hk2⟩
   have c1 := hk2.cell_of (p := ⟨w.heap.size, 1, none⟩) (v := .int .i64 v.kind) ((Blk.new _ _ _).cell 1) (by simp)
   have HK2 := Lib.hid (HK0.out.trans hk2)
   clear hk2
   go_wp2
   go_ret
   exact ⟨by rw [HR2.out]; rfl, HK2.out⟩
 | cons x t =>
  have hR0 : R = match colIx l (x :: t) with | none => 0 | some k => if v = zV then (l.getD k zC).kind else 0 := by
   rw [← HR.out]
   unfold kindI
   rw [if_neg (by simp)]
   cases colIx l (x :: t) <;> rfl
  clear HR
  cases hci : colIx l (x :: t) with
  | none =>
   rw [hci] at HF hR0
   have HR2 : Hid (R = 0) := Lib.hid hR0
   clear hR0
   go_enter Tryz.func137, Tryz.ntmps137
   go_wp2_with fail
   refine (HF.out _ HK0.out).mono ?_
   rintro e w2 ⟨rfl, hk2⟩
   have HK2 := Lib.hid (HK0.out.trans hk2)
   clear hk2
   show _
   simp only [optI]
   go_wp2
   go_ret
   exact ⟨by rw [HR2.out]; rfl, HK2.out⟩
  | some k =>
   rw [hci] at HF hR0
   have hkl : k < l.length := (List.findIdx?_eq_some_iff_getElem.1 hci).1
   have hgd : l.getD k zC = l[k] := by rw [List.getD_eq_getElem?_getD, List.getElem?_eq_getElem hkl]; rfl
   obtain ⟨b, o, hAe, _, hb, hcs⟩ := HA.out.open' (by omega) (by omega)
   subst hAe
   have d1 := hcs (k * 2 + 1) _ (csCells_at l k hkl).2
   rw [← Nat.add_assoc] at d1
   have hi0 : ((k : Int) < 0) = False := eq_false (by omega)
   have hi1 : (0 : Int) ≤ (k : Int) := by omega
   have hi2 : (k : Int) < (l.length : Int) := by omega
   have hq := vNeqZ v
   have hR1 : R = if v = zV then (l.getD k zC).kind else 0 := hR0
   rw [hgd] at hR1
   have HR2 := Lib.hid hR1
   clear hR0 hR1
   generalize l[k] = cc at *
   clear hci hcs hgd
   by_cases hz : v = zV
   ·rw [decide_eq_true hz] at hq
    have HR3 : Hid (R = cc.kind) := Lib.hid (by rw [HR2.out, if_pos hz])
    clear hz HR2
    go_enter Tryz.func137, Tryz.ntmps137
    go_wp2_with fail
    refine (HF.out _ HK0.out).mono ?_
    rintro e w2 ⟨rfl, hk2⟩
    simp only [optI]
    have c1 := hk2.cell_of (p := ⟨w.heap.size, 1, none⟩) (v := .int .i64 v.kind) ((Blk.new _ _ _).cell 1) (by simp)
    have c2 := hk2.cell_of (p := ⟨w.heap.size, 2, none⟩) (v := .int .i64 v.num) ((Blk.new _ _ _).cell 2) (by simp)
    have c3 := hk2.cell_of (p := ⟨w.heap.size, 3, none⟩) (v := .string (bs v.word)) ((Blk.new _ _ _).cell 3) (by simp)
    have d2 := (HK0.out.trans hk2).cell_of d1 (by simp)
    have HK2 := Lib.hid (HK0.out.trans hk2)
    clear hk2
    go_wp2
    go_ret
    exact ⟨by rw [HR3.out]; rfl, HK2.out⟩
   ·rw [decide_eq_false hz] at hq
    have HR3 : Hid (R = 0) := Lib.hid (by rw [HR2.out, if_neg hz])
    clear hz HR2
    go_enter Tryz.func137, Tryz.ntmps137
    go_wp2_with fail
    refine (HF.out _ HK0.out).mono ?_
    rintro e w2 ⟨rfl, hk2⟩
    simp only [optI]
    have c1 := hk2.cell_of (p := ⟨w.heap.size, 1, none⟩) (v := .int .i64 v.kind) ((Blk.new _ _ _).cell 1) (by simp)
    have c2 := hk2.cell_of (p := ⟨w.heap.size, 2, none⟩) (v := .int .i64 v.num) ((Blk.new _ _ _).cell 2) (by simp)
    have c3 := hk2.cell_of (p := ⟨w.heap.size, 3, none⟩) (v := .string (bs v.word)) ((Blk.new _ _ _).cell 3) (by simp)
    have HK2 := Lib.hid (HK0.out.trans hk2)
    clear hk2
    go_wp2
    go_ret
    exact ⟨by rw [HR3.out]; rfl, HK2.out⟩
end Go.Proofs.YtnjjajanfedjiaaGreatDoor
namespace Go.Proofs.YtnjjajanfedjiaaGreatDoor
open Go.RowKit Go.BigFrame
attribute [local go_sem] bs_size bs_extract bs_append bs_toList
attribute [local go_sem] KW.cell
set_option maxHeartbeats 2000000 in
theorem sizes_any (code : Int) (w : World) : Calls Tryz.prog 95 #[.int .i64 code] w fun e w' => e = .returned (.tuple #[.int .i64 ((sizesN code).1 : Int), .int .i64 ((sizesN code).2 : Int)]) ∧ w = w' := by
 obtain ⟨R, hR⟩ : ∃ R, sizesN code = R := ⟨_, rfl⟩
 rw [hR]
 have HR := Lib.hid hR
 clear hR
 by_cases h5 : code = 5
 ·subst h5
  have HF : Hid (R = (2, 1)) := Lib.hid (HR.out.symm.trans (by decide))
  clear HR
  go_enter Tryz.func95, Tryz.ntmps95
  go_wp2
  go_ret2
  exact ⟨by rw [HF.out]; rfl, rfl⟩
 ·have t5 : (code == 5) = false := by rw [beq_eq_false_iff_ne]; exact h5
  by_cases h7 : code = 7
  ·subst h7
   have HF : Hid (R = (2, 1)) := Lib.hid (HR.out.symm.trans (by decide))
   clear HR
   go_enter Tryz.func95, Tryz.ntmps95
   go_wp2
   go_ret2
   exact ⟨by rw [HF.out]; rfl, rfl⟩
  ·have t7 : (code == 7) = false := by rw [beq_eq_false_iff_ne]; exact h7
   by_cases h9 : code = 9
   ·subst h9
    have HF : Hid (R = (1, 2)) := Lib.hid (HR.out.symm.trans (by decide))
    clear HR
    go_enter Tryz.func95, Tryz.ntmps95
    go_wp2
    go_ret2
    exact ⟨by rw [HF.out]; rfl, rfl⟩
   ·have t9 : (code == 9) = false := by rw [beq_eq_false_iff_ne]; exact h9
    by_cases h1 : code = 1
    ·subst h1
     have HF : Hid (R = (1, 1)) := Lib.hid (HR.out.symm.trans (by decide))
     clear HR
     go_enter Tryz.func95, Tryz.ntmps95
     go_wp2
     go_ret2
     exact ⟨by rw [HF.out]; rfl, rfl⟩
    ·have t1 : (code == 1) = false := by rw [beq_eq_false_iff_ne]; exact h1
     by_cases h2 : code = 2
     ·subst h2
      have HF : Hid (R = (1, 1)) := Lib.hid (HR.out.symm.trans (by decide))
      clear HR
      go_enter Tryz.func95, Tryz.ntmps95
      go_wp2
      go_ret2
      exact ⟨by rw [HF.out]; rfl, rfl⟩
     ·have t2 : (code == 2) = false := by rw [beq_eq_false_iff_ne]; exact h2
      by_cases h3 : code = 3
      ·subst h3
       have HF : Hid (R = (1, 1)) := Lib.hid (HR.out.symm.trans (by decide))
       clear HR
       go_enter Tryz.func95, Tryz.ntmps95
       go_wp2
       go_ret2
       exact ⟨by rw [HF.out]; rfl, rfl⟩
      ·have t3 : (code == 3) = false := by rw [beq_eq_false_iff_ne]; exact h3
       by_cases h4 : code = 4
       ·subst h4
        have HF : Hid (R = (1, 1)) := Lib.hid (HR.out.symm.trans (by decide))
        clear HR
        go_enter Tryz.func95, Tryz.ntmps95
        go_wp2
        go_ret2
        exact ⟨by rw [HF.out]; rfl, rfl⟩
       ·have t4 : (code == 4) = false := by rw [beq_eq_false_iff_ne]; exact h4
        by_cases h6 : code = 6
        ·subst h6
         have HF : Hid (R = (1, 1)) := Lib.hid (HR.out.symm.trans (by decide))
         clear HR
         go_enter Tryz.func95, Tryz.ntmps95
         go_wp2
         go_ret2
         exact ⟨by rw [HF.out]; rfl, rfl⟩
        ·have t6 : (code == 6) = false := by rw [beq_eq_false_iff_ne]; exact h6
         by_cases h8 : code = 8
         ·subst h8
          have HF : Hid (R = (1, 1)) := Lib.hid (HR.out.symm.trans (by decide))
          clear HR
          go_enter Tryz.func95, Tryz.ntmps95
          go_wp2
          go_ret2
          exact ⟨by rw [HF.out]; rfl, rfl⟩
         ·have t8 : (code == 8) = false := by rw [beq_eq_false_iff_ne]; exact h8
          have HF : Hid (R = (0, 0)) := Lib.hid (HR.out.symm.trans (by unfold sizesN; rw [if_neg (by omega), if_neg (by omega), if_neg (by omega)]))
          clear HR h5 h7 h9 h1 h2 h3 h4 h6 h8
          go_enter Tryz.func95, Tryz.ntmps95
          go_wp2
          go_ret2
          exact ⟨by rw [HF.out]; rfl, rfl⟩
end Go.Proofs.YtnjjajanfedjiaaGreatDoor
