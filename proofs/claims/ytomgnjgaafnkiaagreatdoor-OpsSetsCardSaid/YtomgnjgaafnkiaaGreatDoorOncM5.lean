/- ops: Sizes, arg. Slices of texts. -/
import Derived.Test.YtomgnjgaafnkiaaGreatDoorOncM4
import Derived.Test.YtomgnjgaafnkiaaGreatDoorProg
import Derived.Test.YtomgnjgaafnkiaaGreatDoorOncM1
namespace Go.Proofs.YtomgnjgaafnkiaaGreatDoor
open Go.RowKit Go.BigFrame
attribute [local go_sem] bs_size bs_extract bs_append bs_toList
attribute [local go_sem] KW.cell
set_option maxHeartbeats 2000000 in
theorem sizes_any (code : Int) (w : World) : Calls Tryz.prog 63 #[.int .i64 code] w fun e w' => e = .returned (.tuple #[.int .i64 ((sizesN code).1 : Int), .int .i64 ((sizesN code).2 : Int)]) ∧ w = w' := by
  obtain ⟨R, hR⟩ : ∃ R, sizesN code = R := ⟨_, rfl⟩
  rw [hR]
  have HR := Lib.hid hR
  clear hR
  by_cases h5 : code = 5
  · subst h5
    have HF : Hid (R = (2, 1)) := Lib.hid (HR.out.symm.trans (by decide))
    clear HR
    go_enter Tryz.func63, Tryz.ntmps63
    go_wp2
    go_ret2
    exact ⟨by rw [HF.out]; rfl, rfl⟩
  · have t5 : (code == 5) = false := by rw [beq_eq_false_iff_ne]; exact h5
    by_cases h7 : code = 7
    · subst h7
      have HF : Hid (R = (2, 1)) := Lib.hid (HR.out.symm.trans (by decide))
      clear HR
      go_enter Tryz.func63, Tryz.ntmps63
      go_wp2
      go_ret2
      exact ⟨by rw [HF.out]; rfl, rfl⟩
    · have t7 : (code == 7) = false := by rw [beq_eq_false_iff_ne]; exact h7
      by_cases h9 : code = 9
      · subst h9
        have HF : Hid (R = (1, 2)) := Lib.hid (HR.out.symm.trans (by decide))
        clear HR
        go_enter Tryz.func63, Tryz.ntmps63
        go_wp2
        go_ret2
        exact ⟨by rw [HF.out]; rfl, rfl⟩
      · have t9 : (code == 9) = false := by rw [beq_eq_false_iff_ne]; exact h9
        by_cases h1 : code = 1
        · subst h1
          have HF : Hid (R = (1, 1)) := Lib.hid (HR.out.symm.trans (by decide))
          clear HR
          go_enter Tryz.func63, Tryz.ntmps63
          go_wp2
          go_ret2
          exact ⟨by rw [HF.out]; rfl, rfl⟩
        · have t1 : (code == 1) = false := by rw [beq_eq_false_iff_ne]; exact h1
          by_cases h2 : code = 2
          · subst h2
            have HF : Hid (R = (1, 1)) := Lib.hid (HR.out.symm.trans (by decide))
            clear HR
            go_enter Tryz.func63, Tryz.ntmps63
            go_wp2
            go_ret2
            exact ⟨by rw [HF.out]; rfl, rfl⟩
          · have t2 : (code == 2) = false := by rw [beq_eq_false_iff_ne]; exact h2
            by_cases h3 : code = 3
            · subst h3
              have HF : Hid (R = (1, 1)) := Lib.hid (HR.out.symm.trans (by decide))
              clear HR
              go_enter Tryz.func63, Tryz.ntmps63
              go_wp2
              go_ret2
              exact ⟨by rw [HF.out]; rfl, rfl⟩
            · have t3 : (code == 3) = false := by rw [beq_eq_false_iff_ne]; exact h3
              by_cases h4 : code = 4
              · subst h4
                have HF : Hid (R = (1, 1)) := Lib.hid (HR.out.symm.trans (by decide))
                clear HR
                go_enter Tryz.func63, Tryz.ntmps63
                go_wp2
                go_ret2
                exact ⟨by rw [HF.out]; rfl, rfl⟩
              · have t4 : (code == 4) = false := by rw [beq_eq_false_iff_ne]; exact h4
                by_cases h6 : code = 6
                · subst h6
                  have HF : Hid (R = (1, 1)) := Lib.hid (HR.out.symm.trans (by decide))
                  clear HR
                  go_enter Tryz.func63, Tryz.ntmps63
                  go_wp2
                  go_ret2
                  exact ⟨by rw [HF.out]; rfl, rfl⟩
                · have t6 : (code == 6) = false := by rw [beq_eq_false_iff_ne]; exact h6
                  by_cases h8 : code = 8
                  · subst h8
                    have HF : Hid (R = (1, 1)) := Lib.hid (HR.out.symm.trans (by decide))
                    clear HR
                    go_enter Tryz.func63, Tryz.ntmps63
                    go_wp2
                    go_ret2
                    exact ⟨by rw [HF.out]; rfl, rfl⟩
                  · have t8 : (code == 8) = false := by rw [beq_eq_false_iff_ne]; exact h8
                    have HF : Hid (R = (0, 0)) := Lib.hid (HR.out.symm.trans (by unfold sizesN; rw [if_neg (by omega), if_neg (by omega), if_neg (by omega)]))
                    clear HR h5 h7 h9 h1 h2 h3 h4 h6 h8
                    go_enter Tryz.func63, Tryz.ntmps63
                    go_wp2
                    go_ret2
                    exact ⟨by rw [HF.out]; rfl, rfl⟩
/-- That an argument has a value in a row. -/
def argOk (a : Ar) (l : List Cl) (r : List Vl) : Prop := a.col = [] ∨ ∃ k, colIx l a.col = some k ∧ k < r.length
set_option maxHeartbeats 4000000 in
theorem arg_any (a : Ar) (l : List Cl) (r : List Vl) (A B : Option Addr) (c d : Nat) (w : World) (hA : Rd w [] 2 A l.length (csCells l)) (hl : l.length ≤ 4294967296) (hB : Rd w [] 3 B r.length (vsCells r)) (hok : argOk a l r) :
    Calls Tryz.prog 70 #[aAgg a, .slice A l.length c, .slice B r.length d] w fun e w' => e = .returned (vAgg (argV a l r)) ∧ Keeps [] w w' := by
  obtain ⟨nm, v⟩ := a
  show Calls _ _ #[.agg #[.string (bs nm), .int .i64 v.kind, .int .i64 v.num, .string (bs v.word)], .slice A l.length c, .slice B r.length d] w _
  have hk0 : Keeps [] w ((w.alloc (.cells #[.string (bs nm), .int .i64 v.kind, .int .i64 v.num, .string (bs v.word)] 34)).alloc (.cells #[.int .i64 0, .int .i64 0, .string ⟨#[]⟩] 32)) := ((Keeps.refl [] w).alloc _).alloc _
  have HK0 := Lib.hid hk0
  obtain ⟨R, hR⟩ : ∃ R, argV ⟨nm, v⟩ l r = R := ⟨_, rfl⟩
  rw [hR]
  have HR := Lib.hid hR
  cases nm with
  | nil =>
    have HR2 : Hid (R = v) := Lib.hid (by rw [← HR.out]; unfold argV; rw [if_pos rfl])
    clear HR hR hA hB hok hk0
    go_enter Tryz.func70, Tryz.ntmps70
    go_wp2
    refine bodyPost_ret (v := .agg #[.int .i64 v.kind, .int .i64 v.num, .string (bs v.word)]) (by simp [results, Tryz.results70, go_sem]) rfl ⟨by rw [HR2.out]; rfl, ?_⟩
    repeat first | exact Keeps.refl _ _ | refine Keeps.alloc ?_ _ | refine Keeps.setCell ?_ (.inr (by simp)) _
  | cons x tl =>
    obtain ⟨k, hk, hkr⟩ : ∃ k, colIx l (x :: tl) = some k ∧ k < r.length := by
      rcases hok with h | h
      · cases h
      · exact h
    have hgd : r.getD k zV = r[k] := by rw [List.getD_eq_getElem?_getD, List.getElem?_eq_getElem hkr]; rfl
    have HR2 : Hid (R = r[k]) := Lib.hid (by rw [← HR.out, ← hgd]; unfold argV; rw [if_neg (by simp)]; simp only [hk])
    have HF := Lib.hid (fun W (q : Keeps [] w W) => find_any l (x :: tl) A c W (hA.keep q) hl)
    rw [hk] at HF
    obtain ⟨b, o, hBe, _, hb, hcs⟩ := hB.open' (by omega) (by omega)
    subst hBe
    have d0 := hcs (k * 3) _ (vsCells_at r k hkr).1
    have d1 := hcs (k * 3 + 1) _ (vsCells_at r k hkr).2.1
    have d2 := hcs (k * 3 + 2) _ (vsCells_at r k hkr).2.2
    rw [← Nat.add_assoc] at d1 d2
    have hi1 : (0 : Int) ≤ (k : Int) := by omega
    have hi2 : (k : Int) < (r.length : Int) := by omega
    generalize r[k] = u at *
    have HD0 := Lib.hid d0
    have HD1 := Lib.hid d1
    have HD2 := Lib.hid d2
    clear HR hR hA hB hok hk0 hgd hcs hk d0 d1 d2
    go_enter Tryz.func70, Tryz.ntmps70
    go_wp2_with fail
    refine (HF.out _ HK0.out).mono ?_
    rintro e w2 ⟨rfl, hk2⟩
    simp only [optI]
    have e0 := (HK0.out.trans hk2).cell_of HD0.out (by simp)
    have e1 := (HK0.out.trans hk2).cell_of HD1.out (by simp)
    have e2 := (HK0.out.trans hk2).cell_of HD2.out (by simp)
    have hbx := (Blk.new (w.alloc (.cells #[.string (bs (x :: tl)), .int .i64 v.kind, .int .i64 v.num, .string (bs v.word)] 34)) 32 #[.int .i64 0, .int .i64 0, .string ⟨#[]⟩]).keep hk2 (by simp)
    rw [show (w.alloc (.cells #[.string (bs (x :: tl)), .int .i64 v.kind, .int .i64 v.num, .string (bs v.word)] 34)).heap.size = w.heap.size + 1 from Array.size_push _] at hbx
    have c0 : w2.cell? ⟨w.heap.size + 1, 0, none⟩ = some (.int .i64 0) := hbx.cell 0
    have c1 : w2.cell? ⟨w.heap.size + 1, 1, none⟩ = some (.int .i64 0) := hbx.cell 1
    have c2 : w2.cell? ⟨w.heap.size + 1, 2, none⟩ = some (.string ⟨#[]⟩) := hbx.cell 2
    have f0 := hbx.frozen 0
    have f1 := hbx.frozen 1
    have f2 := hbx.frozen 2
    have HK2 := Lib.hid (HK0.out.trans hk2)
    clear hk2 hbx
    go_wp2
    refine bodyPost_ret (v := .agg #[.int .i64 u.kind, .int .i64 u.num, .string (bs u.word)]) (by simp [results, Tryz.results70, go_sem, c0, c1, c2]) rfl ⟨by rw [HR2.out]; rfl, ?_⟩
    exact ((HK2.out.setCell (.inr (by simp)) _).setCell (.inr (by simp)) _).setCell (.inr (by simp)) _
end Go.Proofs.YtomgnjgaafnkiaaGreatDoor
namespace Go.Proofs.YtomgnjgaafnkiaaGreatDoor
open Go.RowKit
def strs (l : List Bs) : List Value := l.map fun s => .string (bs s)
theorem strs_length (l : List Bs) : (strs l).length = l.length := by simp [strs]
theorem strs_at' (l : List Bs) (k : Nat) (h : k < l.length) : (strs l)[k]? = some (.string (bs l[k])) := by simp [strs, h]
theorem strs_snoc (l : List Bs) (s : Bs) : strs (l ++ [s]) = strs l ++ [.string (bs s)] := by simp [strs]
theorem strs_oneCell (l : List Bs) : ∀ u ∈ strs l, u.oneCell' = true := by
  intro u hu
  obtain ⟨s, _, rfl⟩ := List.mem_map.1 hu
  rfl
theorem sinfo : (Tryz.prog.info? 9).map (fun i => (i.zero, i.size, i.bytes)) = some (some (.string ⟨#[]⟩), 1, 16) := by kernel_rfl
theorem slice_str {P : Program} {T : TypeId} (hT : P.underlying T = some .string) (s : Bs) (lo hi : Nat) (h1 : lo ≤ hi) (h2 : hi ≤ s.length) (W : World) :
    (Instr.slice T (.string (bs s)) (some (.int .i64 (lo : Int))) (some (.int .i64 (hi : Int))) none).run P W = .ok (.string (bs ((s.take hi).drop lo))) W := by
  have h3 : (lo : Int) ≤ (hi : Int) := by omega
  have h4 : (hi : Int) ≤ (s.length : Int) := by omega
  have e : (bs s).extract lo hi = bs ((s.take hi).drop lo) := bs_extract s lo hi
  rw [← e]
  have h5 : hi ≤ (bs s).size := by rw [bs_size]; exact h2
  have h6 : (hi : Int) ≤ ((bs s).size : Int) := by rw [bs_size]; exact h4
  go_simp
end Go.Proofs.YtomgnjgaafnkiaaGreatDoor
