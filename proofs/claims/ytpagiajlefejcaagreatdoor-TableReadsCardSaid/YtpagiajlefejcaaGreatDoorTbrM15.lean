/- The reference's ParseTable. The law's small: what a table is like that is small. A table that is read only. -/
import Derived.Test.YtpagiajlefejcaaGreatDoorTbrM8
import Derived.Test.YtpagiajlefejcaaGreatDoorTbrM11
import Derived.Test.YtpagiajlefejcaaGreatDoorTbrM14
import Derived.OneCell
import Derived.Test.YtpagiajlefejcaaGreatDoorTbrM3
import Derived.Deep.CutBlock
import Derived.Deep.DeepCutAuto
import Derived.Test.YtpagiajlefejcaaGreatDoorTbrM1
set_option linter.unusedSimpArgs false
set_option linter.unusedVariables false
namespace Go.Proofs.YtpagiajlefejcaaGreatDoor
open Go.RowKit Go.BigFrame
attribute [local go_sem] bs_size bs_append bs_toList
def RtOut (R : PR) (e : Ending) (w' : World) : Prop := match R with
 | .ok t => ∃ A B c d, e = .returned (.tuple #[tAgg A t.cols.length c B t.rows.length d, .agg #[.int .i64 0, .int .i64 (-1)]]) ∧ TabIn w' t A B c d
 | .bad x p => e = .returned (.tuple #[.agg #[.slice none 0 0, .slice none 0 0], .agg #[.int .i64 x, .int .i64 p]])
theorem cutC_ix (c : UInt8) : ∀ u : Bs, (Lib.indexByte u c = -1 ∧ cutC c u = (u, [])) ∨ ∃ k : Nat, Lib.indexByte u c = k ∧ k < u.length ∧ cutC c u = (u.take k, u.drop (k + 1))
 | [] => .inl ⟨rfl, rfl⟩
 | b :: l => by
  by_cases hb : b = c
  ·exact .inr ⟨0, by unfold Lib.indexByte; simp [hb], by simp, by unfold cutC; rw [if_pos hb]; rfl⟩
  ·have hbq : (b == c) = false := by rw [beq_eq_false_iff_ne]; exact hb
   rcases cutC_ix c l with ⟨h1, h2⟩ | ⟨k, h1, h2, h3⟩
   ·refine .inl ⟨?_, ?_⟩
    ·unfold Lib.indexByte
     rw [hbq, h1]; rfl
    ·unfold cutC
     rw [if_neg hb, h2]
   ·refine .inr ⟨k + 1, ?_, by simp; omega, ?_⟩
    ·unfold Lib.indexByte
     have : ((k : Int) == -1) = false := by rw [beq_eq_false_iff_ne]; omega
     rw [hbq, h1, this]; rfl
    ·unfold cutC
     rw [if_neg hb, h3]
     rfl
theorem cols_put {w3 w5 w7 : World} {bt gw cap n m size : Nat} {v r : Value} {xs ys : List Value} {o : Obj} {e : TypeId} (he : e ≠ 25) (hk : Keeps [bt] w3 w5)
  (hown : w5.ownsRow w3.heap.size e size v n xs) (hbt : Blk w5 bt 25 #[v, r]) (hown7 : w7.ownsRow w3.heap.size e size (.slice (some ⟨gw, 0, none⟩) m cap) m ys) (hgrow : (w5.alloc o).grownBy w7 v.ownBlock) :
  (w7.setCell ⟨bt, 0, none⟩ (.slice (some ⟨gw, 0, none⟩) m cap)).ownsRow w3.heap.size e size (.slice (some ⟨gw, 0, none⟩) m cap) m ys ∧ Blk (w7.setCell ⟨bt, 0, none⟩ (.slice (some ⟨gw, 0, none⟩) m cap)) bt 25 #[.slice (some ⟨gw, 0, none⟩) m cap, r] ∧ Keeps [bt] w3 (w7.setCell ⟨bt, 0, none⟩ (.slice (some ⟨gw, 0, none⟩) m cap)) := by
 have hbt6 := hbt.alloc o
 have hne := row_ne hown hbt he
 have hbt7 : Blk w7 bt 25 #[v, r] := (hgrow.block bt hbt6.lt (fun e => hne e.symm)).trans hbt6
 have hne7 := row_ne hown7 hbt7 he
 have hk7 : Keeps [bt] w3 w7 := Keeps.grown (hk.alloc o) hgrow (fun g hg => .inr (hown.lt g hg).1)
 refine ⟨own_keep hown7 (Keeps.setCell (Keeps.refl [bt] w7) (.inl (by simp)) _) (fun g hg hm => ?_), ?_, hk7.setCell (.inl (by simp)) _⟩
 ·have : g = bt := by simpa using hm
  subst this
  exact hne7 hg
 ·exact (hbt7.set 0 _).congr rfl
theorem Rws.keepL {W W' : World} {base : Nat} {vr : Value} {rs : List (List Vl)} {L : List Nat} (h : Rws W base vr rs) (hk : Keeps L W W') (hL : ∀ x ∈ L, x < base) : Rws W' base vr rs := by
 obtain ⟨us, h1, h2, h3⟩ := h
 exact ⟨us, h1, own_keep h2 hk (fun g hg hm => absurd (hL g hm) (by have := (h2.lt g hg).1; omega)), fun i hi hi' => own_keep (h3 i hi hi') hk (fun g hg hm => absurd (hL g hm) (by have := ((h3 i hi hi').lt g hg).1; omega))⟩
theorem right_one {cs : List Cl} {q : List Vl} (hc : colsB cs = true) (hq : ∀ v ∈ q, rvB v = true) : rightB ⟨cs, [q]⟩ = fits cs q := by
 rw [Bool.eq_iff_iff]
 unfold rightB
 simp only [hc, List.length_cons, List.length_nil, List.all_cons, List.all_nil, Bool.and_true, Bool.true_and]
 rw [show decide (0 + 1 ≤ 60) = true from rfl, Bool.true_and, rowB_iff]
 exact ⟨fun h => h.1, fun h => ⟨h, hq⟩⟩
theorem kix_beq (k : Bs) : (k = [105, 110, 116] ∧ kix k = 1) ∨ (k ≠ [105, 110, 116] ∧ k = [116, 101, 120, 116] ∧ kix k = 2) ∨ (k ≠ [105, 110, 116] ∧ k ≠ [116, 101, 120, 116] ∧ kix k = 0) := by
 unfold kix
 by_cases h1 : k = [105, 110, 116]
 ·exact .inl ⟨h1, if_pos h1⟩
 ·by_cases h2 : k = [116, 101, 120, 116]
  ·exact .inr (.inl ⟨h1, h2, by rw [if_neg h1, if_pos h2]⟩)
  ·exact .inr (.inr ⟨h1, h2, by rw [if_neg h1, if_neg h2]⟩)
set_option maxRecDepth 100000 in
set_option maxHeartbeats 16000000 in
theorem parseTable_any (s : Bs) (hs : s.length ≤ 100000) (w : World) (hE : TEnv w) (hN : REnv w) :
    Calls Tryz.prog 25 #[.string (bs s)] w fun e w' => RtOut (parseL s) e w' ∧ Keeps [] w w' := by
  obtain ⟨ic, hic, hcz0, hcz1, hcz2⟩ := info_parts cinfo
  obtain ⟨iv, hiv, hvz0, hvz1, hvz2⟩ := info_parts vinfo
  obtain ⟨ir, hir, hrz0, hrz1, hrz2⟩ := info_parts rinfo
  have HE := Lib.hid hE
  have HN := Lib.hid hN
  clear hE hN
  have hX := Blk.new w 25 #[.slice none 0 0, .slice none 0 0]
  have hk1 := (Keeps.refl [] w).alloc (.cells #[.slice none 0 0, .slice none 0 0] 25)
  have hY := Blk.new (w.alloc (.cells #[.slice none 0 0, .slice none 0 0] 25)) 47 #[.int .i64 0, .int .i64 0]
  have hk2 := hk1.alloc (.cells #[.int .i64 0, .int .i64 0] 47)
  have hX2 := hX.alloc (.cells #[.int .i64 0, .int .i64 0] 47)
  have hxy : w.heap.size ≠ (w.alloc (.cells #[.slice none 0 0, .slice none 0 0] 25)).heap.size := by have := hX.lt; omega
  have hyw : w.heap.size ≤ (w.alloc (.cells #[.slice none 0 0, .slice none 0 0] 25)).heap.size := hk1.size
  have HSP := Lib.hid (split_at 10 s (by omega) _ (HE.out.quiet hk2))
  go_enter Tryz.func25, Tryz.ntmps25
  go_wp2_with fail
  refine HSP.out.mono ?_
  rintro e w2 ⟨b1, o1, rfl, _, hb1, hc1, hk3⟩
  have hX3 := hX2.keep hk3 (by simp)
  have hY3 := hY.keep hk3 (by simp)
  have HK2 := Lib.hid (hk2.trans hk3)
  rw [show (w.alloc (.cells #[.slice none 0 0, .slice none 0 0] 25)).heap.size = w.heap.size + 1 from Array.size_push _] at hY3 hxy hyw
  clear hX hY hk1 hX2 hk2 HSP
  obtain ⟨X, hXe⟩ : ∃ X, w.heap.size = X := ⟨_, rfl⟩
  obtain ⟨Y, hYe⟩ : ∃ Y, w.heap.size + 1 = Y := ⟨_, rfl⟩
  have HXW : Hid (w.heap.size ≤ X) := Lib.hid (Nat.le_of_eq hXe)
  have HYW : Hid (w.heap.size ≤ Y) := Lib.hid (by omega)
  have HXY : Hid (X ≠ Y) := Lib.hid (by omega)
  have HYX : Hid (Y ≠ X) := Lib.hid (by omega)
  rw [hYe] at hY3
  rw [hXe] at hX3
  have HX2 := Lib.hid hX3
  have HY2 := Lib.hid hY3
  try rw [hYe]
  try rw [hXe]
  have HXE := Lib.hid hXe
  have HYE := Lib.hid hYe
  clear hX3 hY3 hxy hyw hk3 hXe hYe
  obtain ⟨l0, hl0⟩ : ∃ l0, (splitC 10 s).headD [] = l0 := ⟨_, rfl⟩
  obtain ⟨N, hN⟩ : ∃ N, (splitC 10 s).length = N := ⟨_, rfl⟩
  have hln := splitC_len 10 s
  have d0 : w2.cell? ⟨b1, o1, none⟩ = some (.string (bs l0)) := by
    have h := hc1 0 _ (strs_at' (splitC 10 s) 0 hln.2.1)
    rw [Nat.add_zero] at h
    rw [h, ← hl0]
    congr 3
    exact get0_headD hln.2.1
  have HL0 := Lib.hid hl0
  have HNN := Lib.hid hN
  have HC1 := Lib.hid hc1
  have hl0l : l0.length ≤ 100000 := by
    rw [← hl0]
    cases hsp : splitC 10 s with
    | nil => simp
    | cons a t => have := hln.2.2 a (by rw [hsp]; exact List.mem_cons_self ..); simp; omega
  have hN1 : 1 ≤ N := by omega
  have hN2 : N ≤ 100001 := by omega
  have HS2 := Lib.hid (fun W (q : Keeps [] w2 W) => split_at 32 l0 (by omega) W (HE.out.quiet (HK2.out.trans q)))
  rw [hN]
  clear hl0 hN hc1 hln
  go_wp2_with fail
  refine (HS2.out _ ((Keeps.refl _ _).alloc _)).mono ?_
  rintro e w3 ⟨b2, o2, rfl, hb2g, hb2, hc2, hk3⟩
  have hbt := (Blk.new w2 25 #[.slice none 0 0, .slice none 0 0]).keep hk3 (by simp)
  obtain ⟨bt, hbt0⟩ : ∃ bt, w2.heap.size = bt := ⟨_, rfl⟩
  have hk23 := ((Keeps.refl [] w2).alloc (.cells #[.slice none 0 0, .slice none 0 0] 25)).trans hk3
  have HK3 := Lib.hid (HK2.out.trans hk23)
  have HX3 := Lib.hid (HX2.out.keep hk23 (by simp))
  have HY3 := Lib.hid (HY2.out.keep hk23 (by simp))
  have HC1' := Lib.hid (fun (j : Nat) (u : Value) (h : (strs (splitC 10 s))[j]? = some u) => hk23.cell_of (HC1.out j u h) (by simp))
  have hb2t : b2 ≠ bt := by
    have h9 : w2.heap.size + 1 ≤ b2 := by simpa using hb2g
    omega
  have hb1t : b1 ≠ bt := by omega
  have hneX : X ≠ bt := by have := HX2.out.lt; omega
  have hneY : Y ≠ bt := by have := HY2.out.lt; omega
  have hbtw : w.heap.size ≤ bt := by have := HK2.out.size; omega
  have hXl : X < w3.heap.size := HX3.out.lt
  have hYl : Y < w3.heap.size := HY3.out.lt
  rw [hbt0] at hbt ⊢
  have HBT := Lib.hid hbt
  have HC2 := Lib.hid hc2
  have hb13 : b1 < w3.heap.size := Nat.lt_of_lt_of_le hb1 hk23.size
  have hl2 := splitC_len 32 l0
  obtain ⟨M, hM⟩ : ∃ M, (splitC 32 l0).length = M := ⟨_, rfl⟩
  have HMM := Lib.hid hM
  have hM1 : 1 ≤ M := by omega
  have hM2 : M ≤ 100001 := by omega
  have hpl := hl2.2.2
  have HPL := Lib.hid hpl
  rw [hM]
  clear hk3 hk23 hbt hbt0 hc2 hl2 hM hpl HS2 HX2 HY2 HK2 HC1 hb1 d0
  go_wp2
  go_loopw [23] (fun i wr => ∃ (n : Nat) (v : Value), n ≤ M ∧ i = .int .i64 n ∧ Hid (wr.ownsRow w3.heap.size 109 2 v n (csCells ((colsP l0).take n))) ∧ Hid (Blk wr bt 25 #[v, .slice none 0 0]) ∧ Hid (Keeps [bt] w3 wr)) (fun i _ => M - (intOf i).toNat)
  case atStart => exact ⟨0, _, Nat.zero_le _, rfl, Lib.hid (World.ownsRow_nil _ _ _ _), HBT, Lib.hid (Keeps.refl _ _)⟩
  case round =>
    obtain ⟨n, v, hn, rfl, HO, HBT2, HK3R⟩ := hrel
    obtain ⟨z, rfl⟩ : ∃ z : World, z = wr := ⟨_, rfl⟩
    have HK := Lib.hid (HK3.out.trans' HK3R.out (fun y hy hl => by simp at hy; omega))
    by_cases hlt : n < M
    · -- BEGIN cols
      obtain ⟨u, hu⟩ : ∃ u, (splitC 32 l0)[n]'(by rw [HMM.out]; exact hlt) = u := ⟨_, rfl⟩
      have d1 : z.cell? ⟨b2, o2 + n, none⟩ = some (.string (bs u)) := by
        have h := HC2.out n _ (strs_at' (splitC 32 l0) n (by rw [HMM.out]; exact hlt))
        rw [hu] at h
        refine HK3R.out.cell_of h ?_
        simpa using hb2t
      have hul : u.length ≤ 100000 := by
        rw [← hu]
        exact Nat.le_trans (HPL.out _ (List.getElem_mem _)) hl0l
      have hnx : csCells ((colsP l0).take (n + 1)) = csCells ((colsP l0).take n) ++ cCells (colP u) := by
        rw [csCells_take _ _ (by rw [colsP_len, HMM.out]; exact hlt), ← hu]
        simp [colsP]
      have HNX := Lib.hid hnx
      have hal := (Keeps.refl [] z).alloc (.cells #[.string (bs u), .int .i64 0] 109)
      have HC := Lib.hid (Blk.new z 109 #[.string (bs u), .int .i64 0])
      have HIB : Hid (∀ W, Calls Tryz.prog 53 #[.string (bs u), .int .u8 58] W fun e W' => e = .returned (.int .i64 (Lib.indexByte u 58)) ∧ W = W') := Lib.hid (fun W => (Tryz.strings_IndexByte (bs u) 58 W).mono fun e W' ⟨h1, h2⟩ => ⟨h1, h2.symm⟩)
      have HOc := Lib.hid (own_keep HO.out hal (fun _ _ => by simp))
      have HBTc := Lib.hid (HBT2.out.keep hal (by simp))
      have HKc := Lib.hid (HK3R.out.trans (hal.weaken (L' := [bt]) (by simp)))
      have hCb : bt ≠ z.heap.size := by have := HBT2.out.lt; omega
      have hCw : w3.heap.size ≤ z.heap.size := HK3R.out.size
      have hnb : v.ownBlock ≠ some z.heap.size := fun h => by have := (HO.out.lt _ h).2; omega
      clear hu hnx hal
      go_wp2_with fail
      refine (HIB.out _).mono ?_
      rintro e w5 ⟨rfl, rfl⟩
      obtain ⟨ix, hix⟩ : ∃ ix, Lib.indexByte u 58 = ix := ⟨_, rfl⟩
      rw [hix]
      have hcx := cutC_ix 58 u
      rw [hix] at hcx
      clear hix HIB
      obtain ⟨C, hCe⟩ : ∃ C, z.heap.size = C := ⟨_, rfl⟩
      obtain ⟨zc, hzc⟩ : ∃ zc, z.alloc (.cells #[.string (bs u), .int .i64 0] 109) = zc := ⟨_, rfl⟩
      rw [hCe] at HC hCb hCw hnb ⊢
      rw [hzc] at HC HOc HBTc HKc ⊢
      have HCB := Lib.hid hCb
      have HNB := Lib.hid hnb
      have HCW := Lib.hid hCw
      have HCX := Lib.hid hcx
      clear hCe hzc hcx hCb hCw hnb d1
      go_upto_if 32 with (fail)
      go_cut [23] from 23 to 53 (fun i wx => i = .int .i64 n ∧ Hid (Blk wx C 109 #[.string (bs (colP u).name), .int .i64 (colP u).kind]) ∧ Hid (wx.ownsRow w3.heap.size 109 2 v n (csCells ((colsP l0).take n))) ∧ Hid (Blk wx bt 25 #[v, .slice none 0 0]) ∧ Hid (Keeps [bt] w3 wx))
      case first =>
        rcases HCX.out with ⟨rfl, h2⟩ | ⟨k, rfl, hku, h3⟩
        · have hcp : colP u = ⟨u, 0⟩ := by unfold colP; rw [h2]; rfl
          have HCP := Lib.hid hcp
          clear h2 hcp
          go_wp2
          go_meet
          case rel => exact ⟨rfl, Lib.hid (by rw [HCP.out]; exact HC.out), HOc, HBTc, HKc⟩
        · have hcp : colP u = ⟨u.take k, kix (u.drop (k + 1))⟩ := by unfold colP; rw [h3]
          have q0 : (0 : Int) ≤ (k : Int) := by omega
          have hex1 : (bs u).extract 0 k = bs (u.take k) := by rw [bs_extract]; rfl
          have hex2 : (bs u).extract (k + 1) u.length = bs (u.drop (k + 1)) := by rw [bs_extract, List.take_of_length_le (Nat.le_refl _)]
          have hki : (k : Int) ≤ (u.length : Int) := by omega
          have hkj : (k : Int) + 1 ≤ (u.length : Int) := by omega
          obtain ⟨c1, hc1⟩ : ∃ c1, u.take k = c1 := ⟨_, rfl⟩
          obtain ⟨c2, hc2⟩ : ∃ c2, u.drop (k + 1) = c2 := ⟨_, rfl⟩
          rw [hc1, hc2] at hcp
          rw [hc1] at hex1
          rw [hc2] at hex2
          have HCP := Lib.hid hcp
          have g0 : zc.cell? ⟨C, 0, none⟩ = some (.string (bs u)) := HC.out.cell 0
          have g1 : zc.cell? ⟨C, 1, none⟩ = some (.int .i64 0) := HC.out.cell 1
          have fg0 := HC.out.frozen 0
          have fg1 := HC.out.frozen 1
          clear hcp hc1 hc2 h3
          rcases kix_beq c2 with ⟨rfl, hk⟩ | ⟨hn1, rfl, hk⟩ | ⟨hn1, hn2, hk⟩
          · have HKX := Lib.hid hk
            have HCF := Lib.hid ((HC.out.set 0 (.string (bs c1))).set 1 (.int .i64 1))
            have HTF := Lib.hid (HBTc.out.far (p := ⟨C, 0, none⟩) HCB.out (.string (bs c1)) |>.far (p := ⟨C, 1, none⟩) HCB.out (.int .i64 1))
            have HKF := Lib.hid ((HKc.out.setCell (p := ⟨C, 0, none⟩) (.inr HCW.out) (.string (bs c1))).setCell (p := ⟨C, 1, none⟩) (.inr HCW.out) (.int .i64 1))
            have HOF := Lib.hid (ownsRow_setCell_other (a := ⟨C, 1, none⟩) (ownsRow_setCell_other (a := ⟨C, 0, none⟩) HOc.out HNB.out (.string (bs c1))) HNB.out (.int .i64 1))
            clear hk
            go_wp2
            go_meet
            case rel => exact ⟨rfl, Lib.hid (by rw [HCP.out, HKX.out]; exact HCF.out), HOF, HTF, HKF⟩
          · have HKX := Lib.hid hk
            have HCF := Lib.hid ((HC.out.set 0 (.string (bs c1))).set 1 (.int .i64 2))
            have HTF := Lib.hid (HBTc.out.far (p := ⟨C, 0, none⟩) HCB.out (.string (bs c1)) |>.far (p := ⟨C, 1, none⟩) HCB.out (.int .i64 2))
            have HKF := Lib.hid ((HKc.out.setCell (p := ⟨C, 0, none⟩) (.inr HCW.out) (.string (bs c1))).setCell (p := ⟨C, 1, none⟩) (.inr HCW.out) (.int .i64 2))
            have HOF := Lib.hid (ownsRow_setCell_other (a := ⟨C, 1, none⟩) (ownsRow_setCell_other (a := ⟨C, 0, none⟩) HOc.out HNB.out (.string (bs c1))) HNB.out (.int .i64 2))
            clear hk hn1
            go_wp2
            go_meet
            case rel => exact ⟨rfl, Lib.hid (by rw [HCP.out, HKX.out]; exact HCF.out), HOF, HTF, HKF⟩
          · have HKX := Lib.hid hk
            have HCF := Lib.hid ((HC.out.set 0 (.string (bs c1))))
            have HTF := Lib.hid (HBTc.out.far (p := ⟨C, 0, none⟩) HCB.out (.string (bs c1)))
            have HKF := Lib.hid (HKc.out.setCell (p := ⟨C, 0, none⟩) (.inr HCW.out) (.string (bs c1)))
            have HOF := Lib.hid (ownsRow_setCell_other (a := ⟨C, 0, none⟩) HOc.out HNB.out (.string (bs c1)))
            have hb1 : (c2 == [105, 110, 116]) = false := by rw [beq_eq_false_iff_ne]; exact hn1
            have hb2 : (c2 == [116, 101, 120, 116]) = false := by rw [beq_eq_false_iff_ne]; exact hn2
            clear hk hn1 hn2
            go_wp2
            go_meet
            case rel => exact ⟨rfl, Lib.hid (by rw [HCP.out, HKX.out]; exact HCF.out), HOF, HTF, HKF⟩
      case rest =>
        obtain ⟨rfl, HCq, HOq, HBq, HKq⟩ := hcut
        obtain ⟨y, rfl⟩ : ∃ y : World, y = wc := ⟨_, rfl⟩
        obtain ⟨⟨nm, kd⟩, hcp⟩ : ∃ c, colP u = c := ⟨_, rfl⟩
        rw [hcp] at HCq
        have hnx := HNX.out
        rw [hcp] at hnx
        have HNX2 := Lib.hid hnx
        have e0 : y.cell? ⟨C, 0, none⟩ = some (.string (bs nm)) := HCq.out.cell 0
        have e1 : y.cell? ⟨C, 1, none⟩ = some (.int .i64 kd) := HCq.out.cell 1
        have t0 : y.cell? ⟨bt, 0, none⟩ = some v := HBq.out.cell 0
        have hbd := Lib.hid (show n + 1 ≤ maxLen ∧ (n + 1) * 24 ≤ 140737488355328 by simp only [maxLen]; omega)
        have HWZ := Lib.hid (show w3.heap.size ≤ y.heap.size + 1 from Nat.le_succ_of_le HKq.out.size)
        have hne := row_ne HOq.out HBq.out (by decide)
        have fS : ∀ o, (y.alloc o).frozen? ⟨bt, 0, none⟩ = false := fun o => (HBq.out.alloc o).frozen 0
        clear hcp hnx HNX HC HOc HBTc HKc HCX HO HBT2 HK3R HK
        go_wp2_with (at_builtin; refine wpList_append_lies _ rfl _ _ 22 rfl _ 109 ic _ 2 24 Tryz.underlying22 hic hcz0 hcz1 hcz2 rfl (by decide) _ n (csCells ((colsP l0).take n)) rfl (HOq.out.alloc _) ⟨y.heap.size, 0, none⟩ 1 1 [.string (bs nm), .int .i64 kd] rfl rfl (World.news_of_block (heap_alloc_new _ _)) (by simp [Value.oneCell']) (by decide) hbd.out.1 hbd.out.2 (by simp; exact HWZ.out) _ rfl ?_; intro gw cap2 w8 hown8 hgrow8 hat8 hlt8; have BT8 := (hgrow8.block bt (HBq.out.alloc _).lt (fun e => hne e.symm)).trans (HBq.out.alloc _); have fT := Blk.frozen BT8 0; have cT := Blk.cell BT8 0)
        have hst := cols_put (by decide) HKq.out HOq.out HBq.out hown8 hgrow8
        have HS1 := Lib.hid hst.1
        have HS2 := Lib.hid hst.2.1
        have HS3 := Lib.hid hst.2.2
        clear hst hown8 hgrow8 hat8 hlt8
        go_wp2
        go_roundw
        case rel => exact ⟨n + 1, _, by omega, by go_num, Lib.hid (by rw [HNX2.out]; exact HS1.out), HS2, HS3⟩
        case measure => simp [intOf]; omega
    · -- BEGIN rows
      obtain rfl : n = M := by omega
      have hcol : (colsP l0).take n = colsP l0 := List.take_of_length_le (by rw [colsP_len, HMM.out]; exact Nat.le_refl _)
      have hlenc : (colsP l0).length = n := by rw [colsP_len, HMM.out]
      have hO := HO.out
      rw [hcol] at hO
      obtain ⟨gv, cv, hve, hcv, hgv, hgl, hcc⟩ := own_some hO hM1
      subst hve
      have hRd : Rd z [] 2 (some ⟨gv, 0, none⟩) n (csCells (colsP l0)) := by
        obtain ⟨A, c, h1, _, h2⟩ := own_rd hO
        injection h1 with h1 _ _
        rw [h1]
        exact h2
      have t0 : z.cell? ⟨bt, 0, none⟩ = some (.slice (some ⟨gv, 0, none⟩) n cv) := HBT2.out.cell 0
      have hnm : ∀ x ∈ colsP l0, x.name.length ≤ 1000000 := fun x hx => Nat.le_trans (colsP_names l0 x hx) (by omega)
      have hrc := rRightCols_any (colsP l0) (some ⟨gv, 0, none⟩) cv z (by rw [hlenc]; exact hRd) hnm (by omega)
      rw [hlenc] at hrc
      have HRC := Lib.hid hrc
      have HO2 := Lib.hid hO
      have HRD := Lib.hid hRd
      have HNM := Lib.hid hnm
      have HLC := Lib.hid hlenc
      clear hrc hcol hlenc hO hRd hnm hcc HO
      go_wp2_with fail
      refine HRC.out.mono ?_
      rintro e w5 ⟨rfl, hk5⟩
      have HX5 := Lib.hid ((HX3.out.keep HK3R.out (by simpa using hneX)).keep hk5 (by simp))
      have HY5 := Lib.hid ((HY3.out.keep HK3R.out (by simpa using hneY)).keep hk5 (by simp))
      have HK5 := Lib.hid (HK.out.trans hk5)
      have HBT5 := Lib.hid (HBT2.out.keep hk5 (by simp))
      have HRD5 := Lib.hid (HRD.out.keep hk5)
      have HO5 := Lib.hid (own_keep HO2.out hk5 (fun _ _ => by simp))
      have HC5 := Lib.hid (fun (j : Nat) (u : Value) (h : (strs (splitC 10 s))[j]? = some u) => hk5.cell_of (HK3R.out.cell_of (HC1'.out j u h) (by simpa using hb1t)) (by simp))
      have h35 : w3.heap.size ≤ w5.heap.size := Nat.le_trans HK3R.out.size hk5.size
      have hb15 : b1 < w5.heap.size := Nat.lt_of_lt_of_le hb13 (Nat.le_trans HK3R.out.size hk5.size)
      have hgvT : gv ≠ bt := fun e => row_ne HO5.out HBT5.out (by decide) (by rw [e]; rfl)
      clear HRC HBT2 HK HK3R HO2 HX3 HY3 HC1' HC2 HBT HK3 HPL HRD t0 hk5 hb13
      cases hcb : colsB (colsP l0) with
      | false =>
        have hR : Hid (parseL s = .bad 3 0) := Lib.hid (by unfold parseL; rw [HL0.out, hcb]; rfl)
        clear hcb
        have x0 : w5.cell? ⟨X, 0, none⟩ = some (.slice none 0 0) := HX5.out.cell 0
        have x1 : w5.cell? ⟨X, 1, none⟩ = some (.slice none 0 0) := HX5.out.cell 1
        have y0 : w5.cell? ⟨Y, 0, none⟩ = some (.int .i64 0) := HY5.out.cell 0
        have y1 : w5.cell? ⟨Y, 1, none⟩ = some (.int .i64 0) := HY5.out.cell 1
        have hxy := HXY.out
        have hyx := HYX.out
        have fx0 := HX5.out.frozen 0
        have fx1 := HX5.out.frozen 1
        have fy0 := HY5.out.frozen 0
        have fy1 := HY5.out.frozen 1
        have HXF := Lib.hid ((((HX5.out.set 0 (.slice none 0 0)).set 1 (.slice none 0 0)).far (p := ⟨Y, 0, none⟩) HXY.out (.int .i64 3)).far (p := ⟨Y, 1, none⟩) HXY.out (.int .i64 0))
        have HYF := Lib.hid ((((HY5.out.far (p := ⟨X, 0, none⟩) HYX.out (.slice none 0 0)).far (p := ⟨X, 1, none⟩) HYX.out (.slice none 0 0)).set 0 (.int .i64 3)).set 1 (.int .i64 0))
        have HKF := Lib.hid ((((HK5.out.setCell (p := ⟨X, 0, none⟩) (.inr HXW.out) (.slice none 0 0)).setCell (p := ⟨X, 1, none⟩) (.inr HXW.out) (.slice none 0 0)).setCell (p := ⟨Y, 0, none⟩) (.inr HYW.out) (.int .i64 3)).setCell (p := ⟨Y, 1, none⟩) (.inr HYW.out) (.int .i64 0))
        go_wp2
        (try simp only [Exit.inBlock, Exit.then])
        refine bodyPost_ret (results_cells2 rfl _ _ X Y _ _ _ _ _ _ _ _ rfl rfl HXF.out HYF.out Tryz.underlying25 rfl (by kernel_rfl) Tryz.underlying47 rfl (by kernel_rfl)) rfl ?_
        exact ⟨by rw [hR.out]; rfl, HKF.out⟩
      | true =>
        have hR : Hid (parseL s = linesP (colsP l0) (splitC 10 s).tail 0 []) := Lib.hid (by unfold parseL; rw [HL0.out, hcb]; rfl)
        have HCB := Lib.hid hcb
        clear hcb
        go_wp2_with fail
        go_loopw [10] (fun i wr => ∃ (j m : Nat) (vr : Value) (rs : List (List Vl)), j = m + 1 ∧ j ≤ N ∧ i = .int .i64 (j : Int) ∧ Hid (Blk wr bt 25 #[.slice (some ⟨gv, 0, none⟩) n cv, vr]) ∧ Hid (Rws wr w5.heap.size vr rs) ∧ Hid (linesP (colsP l0) ((splitC 10 s).tail.drop m) m rs = parseL s) ∧ Hid (rs.length ≤ 60 ∧ ∀ r ∈ rs, r.length = n) ∧ Hid (Keeps [bt] w5 wr)) (fun i _ => N - (intOf i).toNat)
        case atStart => exact ⟨1, 0, _, [], rfl, hN1, rfl, HBT5, Lib.hid (Rws.nil _ _), Lib.hid (by rw [hR.out, List.drop_zero]), Lib.hid (by simp), Lib.hid (Keeps.refl _ _)⟩
        case round =>
          obtain ⟨j, m, vr, rs, hjm, hjN, rfl, HBT6, HRW, HLP, HRS, HKR⟩ := hrel
          obtain ⟨z6, rfl⟩ : ∃ z : World, z = wr := ⟨_, rfl⟩
          have HJM := Lib.hid hjm
          clear hjm
          have HKW := Lib.hid (HK5.out.trans' HKR.out (fun y hy hl => by simp at hy; omega))
          have HX6 := Lib.hid (HX5.out.keep HKR.out (by simpa using hneX))
          have HY6 := Lib.hid (HY5.out.keep HKR.out (by simpa using hneY))
          obtain ⟨B0, d0, hvr0, hd0, hRr⟩ := HRW.out.rd
          subst hvr0
          by_cases hlt : j < N
          · have hji : (j : Int) < (N : Int) := by omega
            have hmN : j < (splitC 10 s).length := by rw [HNN.out]; exact hlt
            have hdr : (splitC 10 s).tail.drop m = (splitC 10 s)[j] :: (splitC 10 s).tail.drop j := by
              have hjm := HJM.out
              subst hjm
              exact drop_at (splitC 10 s) m hmN
            have hll : ((splitC 10 s)[j]).length ≤ 100000 := Nat.le_trans ((splitC_len 10 s).2.2 _ (List.getElem_mem _)) hs
            have d1 := HKR.out.cell_of (HC5.out j _ (strs_at' (splitC 10 s) j hmN)) (by simpa using hb1t)
            have hrest : (splitC 10 s).tail.drop j = [] ↔ j + 1 = N := by
              rw [List.drop_eq_nil_iff, List.length_tail, HNN.out]
              omega
            have hlp := HLP.out
            rw [hdr] at hlp
            generalize (splitC 10 s)[j] = l at *
            have HLP2 := Lib.hid hlp
            have HRE := Lib.hid hrest
            clear hlp hrest hdr hmN HLP
            go_upto_region 22 with (fail)
            go_cut [77] from 60 to 127 (fun t wx => t = .bool (decide (j + 1 = N ∧ l = [])) ∧ wx = z6)
            case first =>
              by_cases hm2 : j + 1 = N
              · have hq : (N : Int) - 1 = (j : Int) := by omega
                cases l with
                | nil =>
                  go_wp2
                  go_meet
                  exact ⟨by simp [hm2], rfl⟩
                | cons a t =>
                  go_wp2
                  go_meet
                  exact ⟨by simp, rfl⟩
              · have t1 : ((j : Int) == (N : Int) - 1) = false := by rw [beq_eq_false_iff_ne]; omega
                go_wp2
                go_meet
                exact ⟨by simp [hm2], rfl⟩
            case rest =>
              obtain ⟨rfl, rfl⟩ := hcut
              obtain ⟨z6, rfl⟩ : ∃ z : World, z = wc := ⟨_, rfl⟩
              by_cases hlast : j + 1 = N ∧ l = []
              · rw [decide_eq_true hlast]
                have x0 : z6.cell? ⟨bt, 0, none⟩ = some (.slice (some ⟨gv, 0, none⟩) n cv) := HBT6.out.cell 0
                have x1 : z6.cell? ⟨bt, 1, none⟩ = some (.slice B0 rs.length d0) := HBT6.out.cell 1
                have hF := (HN.out.quiet HKW.out).fine
                have f0 := hF.1
                have f1 := hF.2
                have c0 : z6.cell? ⟨X, 0, none⟩ = some (.slice none 0 0) := HX6.out.cell 0
                have c1 : z6.cell? ⟨X, 1, none⟩ = some (.slice none 0 0) := HX6.out.cell 1
                have y0 : z6.cell? ⟨Y, 0, none⟩ = some (.int .i64 0) := HY6.out.cell 0
                have y1 : z6.cell? ⟨Y, 1, none⟩ = some (.int .i64 0) := HY6.out.cell 1
                have hxy := HXY.out
                have hyx := HYX.out
                have fx0 := HX6.out.frozen 0
                have fx1 := HX6.out.frozen 1
                have fy0 := HY6.out.frozen 0
                have fy1 := HY6.out.frozen 1
                have hRR : Hid (parseL s = .ok ⟨colsP l0, rs⟩) := Lib.hid (by rw [← HLP2.out]; unfold linesP; rw [if_pos ⟨HRE.out.2 hlast.1, hlast.2⟩])
                clear hlast hRr
                have hXb : X < w3.heap.size := hXl
                have hYb : Y < w3.heap.size := hYl
                have hXc : X < w5.heap.size := Nat.lt_of_lt_of_le hXl h35
                have hYc : Y < w5.heap.size := Nat.lt_of_lt_of_le hYl h35
                have hov := own_keepb HO5.out HKR.out HBT5.out (by decide)
                have HT : Hid (∀ W, Keeps [X, Y] z6 W → RtOut (.ok ⟨colsP l0, rs⟩) (.returned (.tuple #[.agg #[.slice (some ⟨gv, 0, none⟩) n cv, .slice B0 rs.length d0], .agg #[.int .i64 0, .int .i64 (-1)]])) W) := Lib.hid (fun W hk => by
                  have h1 := own_keep hov hk (fun g hg hm => by
                    have := (hov.lt g hg).1
                    simp at hm
                    omega)
                  have h2 := HRW.out.keepL hk (fun x hx => by
                    simp at hx
                    rcases hx with rfl | rfl
                    · exact hXc
                    · exact hYc)
                  obtain ⟨A, B, c, d, e1, e2, hT⟩ := tabIn_of HLC.out h1 h2 (fun x hx => Nat.le_trans (HNM.out x hx) (by decide)) (by have := HLC.out; omega) HRS.out.1 (fun r hr => by have := HRS.out.2 r hr; omega)
                  refine ⟨A, B, c, d, ?_, hT⟩
                  unfold tAgg
                  simp only
                  rw [← e1, ← e2])
                have HXA := Lib.hid ((((show Blk z6.drew X _ _ from HX6.out).set 0 (.slice (some ⟨gv, 0, none⟩) n cv)).set 1 (.slice B0 rs.length d0) |>.far (p := ⟨Y, 0, none⟩) hxy (.int .i64 0)).far (p := ⟨Y, 1, none⟩) hxy (.int .i64 (-1)))
                have HYA := Lib.hid (((((show Blk z6.drew Y _ _ from HY6.out).far (p := ⟨X, 0, none⟩) hyx (.slice (some ⟨gv, 0, none⟩) n cv)).far (p := ⟨X, 1, none⟩) hyx (.slice B0 rs.length d0)).set 0 (.int .i64 0)).set 1 (.int .i64 (-1)))
                have hkA : Keeps [X, Y] z6 ((((z6.drew.setCell ⟨X, 0, none⟩ (.slice (some ⟨gv, 0, none⟩) n cv)).setCell ⟨X, 1, none⟩ (.slice B0 rs.length d0)).setCell ⟨Y, 0, none⟩ (.int .i64 0)).setCell ⟨Y, 1, none⟩ (.int .i64 (-1))) := (((((Keeps.refl _ _).drew).setCell (.inl (by simp)) _).setCell (.inl (by simp)) _).setCell (.inl (by simp)) _).setCell (.inl (by simp)) _
                have HXB := Lib.hid ((((show Blk z6.drew X _ _ from HX6.out).far (p := ⟨Y, 0, none⟩) hxy (.int .i64 0)).far (p := ⟨Y, 1, none⟩) hxy (.int .i64 (-1)) |>.set 0 (.slice (some ⟨gv, 0, none⟩) n cv)).set 1 (.slice B0 rs.length d0))
                have HYB := Lib.hid (((((show Blk z6.drew Y _ _ from HY6.out).set 0 (.int .i64 0)).set 1 (.int .i64 (-1))).far (p := ⟨X, 0, none⟩) hyx (.slice (some ⟨gv, 0, none⟩) n cv)).far (p := ⟨X, 1, none⟩) hyx (.slice B0 rs.length d0))
                have hkB : Keeps [X, Y] z6 ((((z6.drew.setCell ⟨Y, 0, none⟩ (.int .i64 0)).setCell ⟨Y, 1, none⟩ (.int .i64 (-1))).setCell ⟨X, 0, none⟩ (.slice (some ⟨gv, 0, none⟩) n cv)).setCell ⟨X, 1, none⟩ (.slice B0 rs.length d0)) := (((((Keeps.refl _ _).drew).setCell (.inl (by simp)) _).setCell (.inl (by simp)) _).setCell (.inl (by simp)) _).setCell (.inl (by simp)) _
                have HKA := Lib.hid hkA
                have HKB := Lib.hid hkB
                have HXYW : Hid (∀ x ∈ [X, Y], x < w.heap.size → False) := Lib.hid (fun x hx hl => by
                  have h1 := HXW.out
                  have h2 := HYW.out
                  simp at hx
                  omega)
                have hgF : 0 < w.heap.size := World.block_lt_of_cell? _ _ HN.out.fine.1
                have hFX : X ≠ 0 := by have := HXW.out; omega
                have hFY : Y ≠ 0 := by have := HYW.out; omega
                have hXF : 0 ≠ X := Ne.symm hFX
                have hYF : 0 ≠ Y := Ne.symm hFY
                have hXT : bt ≠ X := Ne.symm hneX
                have hYT : bt ≠ Y := Ne.symm hneY
                clear hov hF hkA hkB hgF
                go_wp2_with fail
                go_region
                all_goals
                  go_wp2
                  (try simp only [Exit.inBlock, Exit.then])
                  first
                  | (refine bodyPost_ret (results_cells2 rfl _ _ X Y _ _ _ _ _ _ _ _ rfl rfl HXA.out HYA.out Tryz.underlying25 rfl (by kernel_rfl) Tryz.underlying47 rfl (by kernel_rfl)) rfl ?_
                     exact ⟨by rw [hRR.out]; exact HT.out _ HKA.out, HKW.out.trans' HKA.out fun x hx hl => absurd hl (fun h => HXYW.out x hx h)⟩)
                  | (refine bodyPost_ret (results_cells2 rfl _ _ X Y _ _ _ _ _ _ _ _ rfl rfl HXB.out HYB.out Tryz.underlying25 rfl (by kernel_rfl) Tryz.underlying47 rfl (by kernel_rfl)) rfl ?_
                     exact ⟨by rw [hRR.out]; exact HT.out _ HKB.out, HKW.out.trans' HKB.out fun x hx hl => absurd hl (fun h => HXYW.out x hx h)⟩)
              · rw [decide_eq_false hlast]
                have hLL : linesP (colsP l0) (l :: (splitC 10 s).tail.drop j) m rs = (match lineL (colsP l0) l with
                  | none => .bad 3 (m + 1)
                  | some r => if rs.length = 60 then .bad 4 (m + 1) else linesP (colsP l0) ((splitC 10 s).tail.drop j) (m + 1) (rs ++ [r])) := by
                  conv => lhs; unfold linesP
                  rw [if_neg (fun h => hlast ⟨HRE.out.1 h.1, h.2⟩)]
                  cases lineL (colsP l0) l <;> rfl
                rw [HLP2.out, ← HJM.out] at hLL
                have HLL := Lib.hid hLL
                clear hLL hlast HLP2 hRr
                go_wp2_with fail
                refine (pieces_any l (by omega) _).mono ?_
                rintro e w6 ⟨A6, c6, rfl, ho6, hk6⟩
                obtain ⟨K, hK⟩ : ∃ K, (cutL l).length = K := ⟨_, rfl⟩
                have hK1 : 1 ≤ K := by rw [← hK]; unfold cutL; simp
                have hKl : K ≤ 100001 := by rw [← hK]; have := (cutS_from l l.length).2; unfold cutL; simp; omega
                rw [hK] at ho6 ⊢
                obtain ⟨gc, cc, e6, hcc6, hgc, hgc6, hcell6⟩ := own_some ho6 hK1
                injection e6 with e6 _ e7
                subst e6
                have HKK := Lib.hid hK
                have HC6 := Lib.hid hcell6
                have HK6 := Lib.hid hk6
                have HBT7 := Lib.hid (HBT6.out.keep hk6 (by simp))
                have HX7 := Lib.hid (HX6.out.keep hk6 (by simp))
                have HY7 := Lib.hid (HY6.out.keep hk6 (by simp))
                have HRW7 := Lib.hid (HRW.out.keep hk6)
                have HKW7 := Lib.hid (HKW.out.trans hk6)
                clear hK ho6 hcell6 hk6 e7 HBT6 HX6 HY6
                go_wp2_with fail
                go_loopw [11, 86] (fun vq i wx => ∃ (k : Nat) (q : List Vl) (vv : Value), k ≤ K ∧ q.length = k ∧ vq = vv ∧ i = .int .i64 k ∧ Hid (wx.ownsRow w6.heap.size 27 3 vv k (vsCells q)) ∧ Hid (valsP ((cutL l).drop k) q = valsP (cutL l) []) ∧ Hid (Keeps [] w6 wx)) (fun _ i _ => K - (intOf i).toNat)
                case atStart => exact ⟨0, [], _, Nat.zero_le _, rfl, rfl, rfl, Lib.hid (World.ownsRow_nil _ _ _ _), Lib.hid (by rw [List.drop_zero]), Lib.hid (Keeps.refl _ _)⟩
                case round =>
                  obtain ⟨k, q, vv, hk, hq, rfl, rfl, HOQ, HVP, HK6R⟩ := hrel
                  obtain ⟨z7, rfl⟩ : ∃ z : World, z = wr := ⟨_, rfl⟩
                  by_cases hlk : k < K
                  · have hki : (k : Int) < (K : Int) := by omega
                    have hkl : k < (cutL l).length := by rw [HKK.out]; exact hlk
                    have hvp := HVP.out
                    rw [valsP_step hkl] at hvp
                    have d2 := HK6R.out.cell_of (HC6.out k _ (strs_at' (cutL l) k hkl)) (by simp)
                    have hpl : ((cutL l)[k]).length ≤ 100000 := Nat.le_trans (cutL_len l _ (List.getElem_mem _)) hll
                    generalize (cutL l)[k] = p at *
                    have HKr := Lib.hid (HKW7.out.trans HK6R.out)
                    have HPV0 := rpval_any p (by omega) z7 (HE.out.quiet HKr.out) (HN.out.quiet HKr.out)
                    cases hpv : pvL p with
                    | none =>
                      rw [hpv] at hvp HPV0
                      have HPV : Hid (Calls Tryz.prog 23 #[.string (bs p)] z7 fun e w' => e = .returned (.tuple #[.agg #[.int .i64 0, .int .i64 0, .string ⟨#[]⟩], .int .i64 3]) ∧ Keeps [] z7 w') := Lib.hid HPV0
                      have hRR : Hid (parseL s = .bad 3 j) := Lib.hid (by rw [HLL.out]; unfold lineL; rw [← hvp])
                      clear hvp hpv HPV0
                      go_wp2_with fail
                      refine HPV.out.mono ?_
                      rintro e w7 ⟨rfl, hk7⟩
                      have hka := hk7.alloc (.cells #[.int .i64 0, .int .i64 0, .string ⟨#[]⟩] 27)
                      have HX8 := Lib.hid ((HX7.out.keep HK6R.out (by simp)).keep hka (by simp))
                      have HY8 := Lib.hid ((HY7.out.keep HK6R.out (by simp)).keep hka (by simp))
                      have HK8 := Lib.hid (HKr.out.trans hka)
                      clear hk7 hka d2
                      go_upto_region 30 with (fail)
                      generalize w7.alloc (.cells #[.int .i64 0, .int .i64 0, .string ⟨#[]⟩] 27) = z8 at HX8 HY8 HK8 ⊢
                      have x0 : z8.cell? ⟨X, 0, none⟩ = some (.slice none 0 0) := HX8.out.cell 0
                      have x1 : z8.cell? ⟨X, 1, none⟩ = some (.slice none 0 0) := HX8.out.cell 1
                      have y0 : z8.cell? ⟨Y, 0, none⟩ = some (.int .i64 0) := HY8.out.cell 0
                      have y1 : z8.cell? ⟨Y, 1, none⟩ = some (.int .i64 0) := HY8.out.cell 1
                      have hxy := HXY.out
                      have hyx := HYX.out
                      have fx0 := HX8.out.frozen 0
                      have fx1 := HX8.out.frozen 1
                      have fy0 := HY8.out.frozen 0
                      have fy1 := HY8.out.frozen 1
                      have HXF := Lib.hid ((((HX8.out.set 0 (.slice none 0 0)).set 1 (.slice none 0 0)).far (p := ⟨Y, 0, none⟩) HXY.out (.int .i64 3)).far (p := ⟨Y, 1, none⟩) HXY.out (.int .i64 (j : Int)))
                      have HYF := Lib.hid ((((HY8.out.far (p := ⟨X, 0, none⟩) HYX.out (.slice none 0 0)).far (p := ⟨X, 1, none⟩) HYX.out (.slice none 0 0)).set 0 (.int .i64 3)).set 1 (.int .i64 (j : Int)))
                      have HKF := Lib.hid ((((HK8.out.setCell (p := ⟨X, 0, none⟩) (.inr HXW.out) (.slice none 0 0)).setCell (p := ⟨X, 1, none⟩) (.inr HXW.out) (.slice none 0 0)).setCell (p := ⟨Y, 0, none⟩) (.inr HYW.out) (.int .i64 3)).setCell (p := ⟨Y, 1, none⟩) (.inr HYW.out) (.int .i64 (j : Int)))
                      go_wp2
                      (try simp only [Exit.inBlock, Exit.then])
                      refine bodyPost_ret (results_cells2 rfl _ _ X Y _ _ _ _ _ _ _ _ rfl rfl HXF.out HYF.out Tryz.underlying25 rfl (by kernel_rfl) Tryz.underlying47 rfl (by kernel_rfl)) rfl ?_
                      exact ⟨by rw [hRR.out]; rfl, HKF.out⟩
                    | some u =>
                      rw [hpv] at hvp HPV0
                      have HPV : Hid (Calls Tryz.prog 23 #[.string (bs p)] z7 fun e w' => e = .returned (.tuple #[.agg #[.int .i64 u.kind, .int .i64 u.num, .string (bs u.word)], .int .i64 0]) ∧ Keeps [] z7 w') := Lib.hid HPV0
                      have HVP2 := Lib.hid hvp
                      have HQ := Lib.hid hq
                      clear hvp hpv HPV0 hq
                      go_wp2_with fail
                      refine HPV.out.mono ?_
                      rintro e w7 ⟨rfl, hk7⟩
                      have HK7 := Lib.hid hk7
                      have hz7 : w6.heap.size ≤ w7.heap.size := Nat.le_trans HK6R.out.size hk7.size
                      clear hk7
                      have HO7 := Lib.hid (own_keep HOQ.out HK7.out (fun _ _ => by simp))
                      have hbd := Lib.hid (show k + 1 ≤ maxLen ∧ (k + 1) * 32 ≤ 140737488355328 by simp only [maxLen]; omega)
                      go_wp2_with (at_builtin; (refine wpList_append_lies _ rfl _ _ 110 rfl w6.heap.size 27 iv _ 3 32 Tryz.underlying110 hiv hvz0 hvz1 hvz2 rfl (by decide) _ k (vsCells q) rfl ((HO7.out.alloc _).alloc _) ⟨w7.heap.size + 1, 0, none⟩ 1 1 [.int .i64 u.kind, .int .i64 u.num, .string (bs u.word)] rfl rfl (World.news_of_block (heap_two _ _ _)) (by simp [Value.oneCell']) (by decide) hbd.out.1 hbd.out.2 (by simp; omega) _ rfl ?_; intro gw cap2 w8 hown8 hgrow8 hat8 hlt8))
                      have HK8 := Lib.hid (((HK6R.out.trans HK7.out).alloc (.cells #[.int .i64 u.kind, .int .i64 u.num, .string (bs u.word)] 27)).alloc (.cells #[.int .i64 u.kind, .int .i64 u.num, .string (bs u.word)] 27) |>.grown hgrow8 (fun g hg => .inr (HOQ.out.lt g hg).1))
                      rw [← vsCells_snoc] at hown8
                      have HO8 := Lib.hid hown8
                      clear hown8 hgrow8 hat8 hlt8
                      go_wp2
                      go_roundw
                      case rel => exact ⟨k + 1, q ++ [u], _, by omega, by simp [HQ.out], rfl, by go_num, HO8, HVP2, HK8⟩
                      case measure => simp [intOf]; omega
                  · obtain rfl : k = K := by omega
                    have hki : ¬ (k : Int) < (k : Int) := by omega
                    have hvp := HVP.out
                    rw [List.drop_of_length_le (by rw [HKK.out]; exact Nat.le_refl _)] at hvp
                    have hoq := HOQ.out
                    obtain ⟨gq, cq, hvq, hcq, hgq, hgql, hqc⟩ := own_some hoq hK1
                    subst hvq
                    have hvl : lineL (colsP l0) l = if fits (colsP l0) q then some q else none := by unfold lineL; rw [← hvp]; rfl
                    have hrv : ∀ v ∈ q, rvB v = true := by
                      obtain ⟨q', e, _, h3⟩ := (valsP_spec (cutL l) [] q).1 hvp.symm
                      rw [e, List.nil_append]
                      exact h3
                    have HVL := Lib.hid hvl
                    have HRV := Lib.hid hrv
                    have HQ := Lib.hid hq
                    have HBT8 := Lib.hid (HBT7.out.keep HK6R.out (by simp))
                    have HX8 := Lib.hid (HX7.out.keep HK6R.out (by simp))
                    have HY8 := Lib.hid (HY7.out.keep HK6R.out (by simp))
                    have HRW8 := Lib.hid (HRW7.out.keep HK6R.out)
                    have HKW8 := Lib.hid (HKW7.out.trans HK6R.out)
                    have HK56 := Lib.hid ((HKR.out.trans (HK6.out.weaken (by simp))).trans (HK6R.out.weaken (by simp)))
                    have hov := own_keep (own_keep (own_keepb HO5.out HKR.out HBT5.out (by decide)) HK6.out (fun _ _ => by simp)) HK6R.out (fun _ _ => by simp)
                    have hal := (Keeps.refl [] z7).alloc (.cells #[.slice (some ⟨gq, 0, none⟩) k cq] 110)
                    have hblk := Blk.new z7 110 #[.slice (some ⟨gq, 0, none⟩) k cq]
                    obtain ⟨zR, hzR⟩ : ∃ zR, z7.alloc (.cells #[.slice (some ⟨gq, 0, none⟩) k cq] 110) = zR := ⟨_, rfl⟩
                    obtain ⟨R, hRe⟩ : ∃ R, z7.heap.size = R := ⟨_, rfl⟩
                    rw [hzR] at hal hblk
                    rw [hRe] at hblk
                    have hA : Rd zR [] 2 (some ⟨gv, 0, none⟩) n (csCells (colsP l0)) := by
                      obtain ⟨A, c, h1, _, h2⟩ := own_rd (own_keep hov hal (fun _ _ => by simp))
                      injection h1 with h1 _ _
                      rw [h1]
                      exact h2
                    have hQr : Rd zR [] 3 (some ⟨gq, 0, none⟩) k (vsCells q) := by
                      obtain ⟨A, c, h1, _, h2⟩ := own_rd (own_keep hoq hal (fun _ _ => by simp))
                      injection h1 with h1 _ _
                      rw [h1]
                      exact h2
                    have hBr : RdRows zR [] (some ⟨R, 0, none⟩) [q] := ⟨[.slice (some ⟨gq, 0, none⟩) k cq], rfl, ⟨rfl, fun _ => ⟨_, rfl, by simp, hblk.lt, fun j u hu => by
                      rw [add_at, Nat.zero_add, hblk.cell j]
                      simpa using hu⟩⟩, fun i h1 h2 => by
                      obtain rfl : i = 0 := by simp at h1; omega
                      exact ⟨some ⟨gq, 0, none⟩, cq, by rw [show ([q] : List (List Vl))[0] = q from rfl, HQ.out]; rfl, by rw [show ([q] : List (List Vl))[0] = q from rfl, HQ.out]; exact hcq, by rw [show ([q] : List (List Vl))[0] = q from rfl, HQ.out]; exact hQr⟩⟩
                    have hri := rRight_any ⟨colsP l0, [q]⟩ (some ⟨gv, 0, none⟩) (some ⟨R, 0, none⟩) cv 1 zR (by show Rd zR [] 2 _ (colsP l0).length _; rw [HLC.out]; exact hA) hBr HNM.out (by show (colsP l0).length ≤ _; rw [HLC.out]; omega) (by show 1 ≤ _; omega) (fun r hr => by rw [List.mem_singleton.1 hr, HQ.out]; omega) (fun r hr v hv => by rw [List.mem_singleton.1 hr] at hv; exact (okV_of (HRV.out v hv)).2.2)
                    rw [right_one HCB.out HRV.out] at hri
                    have HRI : Hid (Calls Tryz.prog 13 #[.agg #[.slice (some ⟨gv, 0, none⟩) n cv, .slice (some ⟨R, 0, none⟩) 1 1]] zR fun e w' => e = .returned (.bool (fits (colsP l0) q)) ∧ Keeps [] zR w') := Lib.hid (by
                      rw [← HLC.out]
                      exact hri)
                    have x0 : z7.cell? ⟨bt, 0, none⟩ = some (.slice (some ⟨gv, 0, none⟩) n cv) := HBT8.out.cell 0
                    have HOQ2 := Lib.hid hoq
                    have HAL := Lib.hid hal
                    have HZR := Lib.hid hzR
                    have HRE2 := Lib.hid hRe
                    clear hvp hvl hrv hoq hqc hq hov hal hblk hA hQr hBr hri hzR hRe HOQ HVP
                    obtain ⟨F, hF⟩ : ∃ F, fits (colsP l0) q = F := ⟨_, rfl⟩
                    rw [hF] at HRI
                    have HF := Lib.hid hF
                    clear hF
                    go_wp2_with fail
                    have hcall := HRI.out
                    rw [← HZR.out, ← HRE2.out] at hcall
                    refine hcall.mono ?_
                    clear hcall
                    rintro e w8 ⟨rfl, hk8⟩
                    rw [HZR.out] at hk8
                    have hk78 : Keeps [] z7 w8 := HAL.out.trans hk8
                    have HX9 := Lib.hid (HX8.out.keep hk78 (by simp))
                    have HY9 := Lib.hid (HY8.out.keep hk78 (by simp))
                    have HBT9 := Lib.hid (HBT8.out.keep hk78 (by simp))
                    have HRW9 := Lib.hid (HRW8.out.keep hk78)
                    have HKW9 := Lib.hid (HKW8.out.trans hk78)
                    have HK59 := Lib.hid (HK56.out.trans (hk78.weaken (by simp)))
                    have HOQ9 := Lib.hid (own_keep HOQ2.out hk78 (fun _ _ => by simp))
                    clear hk8 hk78 x0 HX8 HY8 HBT8 HRW8
                    cases F with
                    | false =>
                      have hRR : Hid (parseL s = .bad 3 j) := Lib.hid (by rw [HLL.out, HVL.out, HF.out]; rfl)
                      have x0 : w8.cell? ⟨X, 0, none⟩ = some (.slice none 0 0) := HX9.out.cell 0
                      have x1 : w8.cell? ⟨X, 1, none⟩ = some (.slice none 0 0) := HX9.out.cell 1
                      have y0 : w8.cell? ⟨Y, 0, none⟩ = some (.int .i64 0) := HY9.out.cell 0
                      have y1 : w8.cell? ⟨Y, 1, none⟩ = some (.int .i64 0) := HY9.out.cell 1
                      have hxy := HXY.out
                      have hyx := HYX.out
                      have fx0 := HX9.out.frozen 0
                      have fx1 := HX9.out.frozen 1
                      have fy0 := HY9.out.frozen 0
                      have fy1 := HY9.out.frozen 1
                      have HXF := Lib.hid ((((HX9.out.set 0 (.slice none 0 0)).set 1 (.slice none 0 0)).far (p := ⟨Y, 0, none⟩) HXY.out (.int .i64 3)).far (p := ⟨Y, 1, none⟩) HXY.out (.int .i64 (j : Int)))
                      have HYF := Lib.hid ((((HY9.out.far (p := ⟨X, 0, none⟩) HYX.out (.slice none 0 0)).far (p := ⟨X, 1, none⟩) HYX.out (.slice none 0 0)).set 0 (.int .i64 3)).set 1 (.int .i64 (j : Int)))
                      have HKF := Lib.hid ((((HKW9.out.setCell (p := ⟨X, 0, none⟩) (.inr HXW.out) (.slice none 0 0)).setCell (p := ⟨X, 1, none⟩) (.inr HXW.out) (.slice none 0 0)).setCell (p := ⟨Y, 0, none⟩) (.inr HYW.out) (.int .i64 3)).setCell (p := ⟨Y, 1, none⟩) (.inr HYW.out) (.int .i64 (j : Int)))
                      go_wp2
                      (try simp only [Exit.inBlock, Exit.then])
                      refine bodyPost_ret (results_cells2 rfl _ _ X Y _ _ _ _ _ _ _ _ rfl rfl HXF.out HYF.out Tryz.underlying25 rfl (by kernel_rfl) Tryz.underlying47 rfl (by kernel_rfl)) rfl ?_
                      exact ⟨by rw [hRR.out]; rfl, HKF.out⟩
                    | true =>
                      have x1 : w8.cell? ⟨bt, 1, none⟩ = some (.slice B0 rs.length d0) := HBT9.out.cell 1
                      have hrr : parseL s = if rs.length = 60 then .bad 4 j else linesP (colsP l0) ((splitC 10 s).tail.drop j) j (rs ++ [q]) := by rw [HLL.out, HVL.out, if_pos HF.out]
                      have hrs60 := HRS.out.1
                      by_cases h60 : rs.length = 60
                      · have t1 : (60 : Int) ≤ (rs.length : Int) := by omega
                        have hRR : Hid (parseL s = .bad 4 j) := Lib.hid (by rw [hrr, if_pos h60])
                        clear hrr h60
                        have x0 : w8.cell? ⟨X, 0, none⟩ = some (.slice none 0 0) := HX9.out.cell 0
                        have x1 : w8.cell? ⟨X, 1, none⟩ = some (.slice none 0 0) := HX9.out.cell 1
                        have y0 : w8.cell? ⟨Y, 0, none⟩ = some (.int .i64 0) := HY9.out.cell 0
                        have y1 : w8.cell? ⟨Y, 1, none⟩ = some (.int .i64 0) := HY9.out.cell 1
                        have hxy := HXY.out
                        have hyx := HYX.out
                        have fx0 := HX9.out.frozen 0
                        have fx1 := HX9.out.frozen 1
                        have fy0 := HY9.out.frozen 0
                        have fy1 := HY9.out.frozen 1
                        have HXF := Lib.hid ((((HX9.out.set 0 (.slice none 0 0)).set 1 (.slice none 0 0)).far (p := ⟨Y, 0, none⟩) HXY.out (.int .i64 4)).far (p := ⟨Y, 1, none⟩) HXY.out (.int .i64 (j : Int)))
                        have HYF := Lib.hid ((((HY9.out.far (p := ⟨X, 0, none⟩) HYX.out (.slice none 0 0)).far (p := ⟨X, 1, none⟩) HYX.out (.slice none 0 0)).set 0 (.int .i64 4)).set 1 (.int .i64 (j : Int)))
                        have HKF := Lib.hid ((((HKW9.out.setCell (p := ⟨X, 0, none⟩) (.inr HXW.out) (.slice none 0 0)).setCell (p := ⟨X, 1, none⟩) (.inr HXW.out) (.slice none 0 0)).setCell (p := ⟨Y, 0, none⟩) (.inr HYW.out) (.int .i64 4)).setCell (p := ⟨Y, 1, none⟩) (.inr HYW.out) (.int .i64 (j : Int)))
                        go_wp2
                        (try simp only [Exit.inBlock, Exit.then])
                        refine bodyPost_ret (results_cells2 rfl _ _ X Y _ _ _ _ _ _ _ _ rfl rfl HXF.out HYF.out Tryz.underlying25 rfl (by kernel_rfl) Tryz.underlying47 rfl (by kernel_rfl)) rfl ?_
                        exact ⟨by rw [hRR.out]; rfl, HKF.out⟩
                      · have t1 : ¬ (60 : Int) ≤ (rs.length : Int) := by omega
                        rw [if_neg h60] at hrr
                        have HRR := Lib.hid hrr
                        clear hrr
                        obtain ⟨us, hus, hor, hel⟩ := HRW9.out
                        have HUS := Lib.hid hus
                        have HOR := Lib.hid hor
                        have HEL := Lib.hid hel
                        have hzf : w8.frozen? ⟨bt, 1, none⟩ = false := HBT9.out.frozen 1
                        have hbl : bt < w8.heap.size := HBT9.out.lt
                        have hz5 : w5.heap.size ≤ w8.heap.size := HK59.out.size
                        have hn1 : (Value.slice B0 rs.length d0).ownBlock ≠ some bt := row_ne HOR.out HBT9.out (by decide)
                        have hbd := Lib.hid (show rs.length + 1 ≤ maxLen ∧ (rs.length + 1) * 24 ≤ 140737488355328 by simp only [maxLen]; omega)
                        clear hus hor hel
                        go_wp2_with (at_builtin; (refine wpList_append_lies _ rfl _ _ 23 rfl w5.heap.size 110 ir _ 1 24 Tryz.underlying23 hir hrz0 hrz1 hrz2 rfl (by decide) _ rs.length us rfl (HOR.out.alloc _) ⟨w8.heap.size, 0, none⟩ 1 1 [.slice (some ⟨gq, 0, none⟩) k cq] rfl rfl (World.news_of_block (heap_alloc_new _ _)) (by simp [Value.oneCell']) (by decide) hbd.out.1 hbd.out.2 (by simp; omega) _ rfl ?_; intro gw cap2 w9 hown9 hgrow9 hat9 hlt9; have BT9 := (hgrow9.block bt (HBT9.out.alloc _).lt (fun e => hn1 e.symm)).trans (HBT9.out.alloc _); have fT := Blk.frozen BT9 1; have cT := Blk.cell BT9 1))
                        have B9 : Blk w9 bt 25 #[.slice (some ⟨gv, 0, none⟩) n cv, .slice B0 rs.length d0] := (hgrow9.block bt (HBT9.out.alloc _).lt (fun e => hn1 e.symm)).trans (HBT9.out.alloc _)
                        have hoq9 : w8.ownsRow w5.heap.size 27 3 (.slice (some ⟨gq, 0, none⟩) k cq) q.length (vsCells q) := by
                          rw [HQ.out]
                          exact own_base HOQ9.out (Nat.le_trans HKR.out.size HK6.out.size)
                        have HRWN := Lib.hid (rws_snoc HUS.out HEL.out HOR.out hoq9 hgrow9 hown9)
                        have HK9 : Hid (Keeps [bt] w5 w9) := Lib.hid ((HK59.out.alloc (.cells #[.slice (some ⟨gq, 0, none⟩) k cq] 110)).grown hgrow9 (fun g hg => .inr (HOR.out.lt g hg).1))
                        have HB9' := Lib.hid B9
                        clear hown9 hgrow9 hat9 hlt9 hoq9 B9
                        go_wp2
                        go_roundw
                        case rel => exact ⟨j + 1, j, _, rs ++ [q], rfl, by omega, by go_num, Lib.hid ((HB9'.out.set 1 _).congr rfl), Lib.hid (Rws.set HRWN.out HB9'.out (by decide) (by decide)), Lib.hid HRR.out.symm, Lib.hid ⟨by simp; omega, fun r hr => by
                          rcases List.mem_append.1 hr with hr | hr
                          · exact HRS.out.2 r hr
                          · rw [List.mem_singleton] at hr
                            have h2 := HF.out
                            rw [hr]
                            unfold fits at h2
                            rw [Bool.and_eq_true] at h2
                            rw [of_decide_eq_true h2.1, HLC.out]⟩, Lib.hid (HK9.out.setCell (.inl (by simp)) _)⟩
                        case measure => simp [intOf]; omega
          · obtain rfl : j = N := by omega
            have hji : ¬ (j : Int) < (j : Int) := by omega
            have hRR : Hid (parseL s = .bad 3 (j - 1)) := Lib.hid (by
              have hjm := HJM.out
              rw [← HLP.out, List.drop_of_length_le (by rw [List.length_tail, HNN.out]; omega)]
              show PR.bad 3 m = _
              have hjm := HJM.out
              congr 1
              omega)
            have HPQ : Hid ((j : Int) - 1 = ((j - 1 : Nat) : Int)) := Lib.hid (by omega)
            have x0 : z6.cell? ⟨X, 0, none⟩ = some (.slice none 0 0) := HX6.out.cell 0
            have x1 : z6.cell? ⟨X, 1, none⟩ = some (.slice none 0 0) := HX6.out.cell 1
            have y0 : z6.cell? ⟨Y, 0, none⟩ = some (.int .i64 0) := HY6.out.cell 0
            have y1 : z6.cell? ⟨Y, 1, none⟩ = some (.int .i64 0) := HY6.out.cell 1
            have hxy := HXY.out
            have hyx := HYX.out
            have fx0 := HX6.out.frozen 0
            have fx1 := HX6.out.frozen 1
            have fy0 := HY6.out.frozen 0
            have fy1 := HY6.out.frozen 1
            have HXF := Lib.hid ((((HX6.out.set 0 (.slice none 0 0)).set 1 (.slice none 0 0)).far (p := ⟨Y, 0, none⟩) HXY.out (.int .i64 3)).far (p := ⟨Y, 1, none⟩) HXY.out (.int .i64 ((j : Int) - 1)))
            have HYF := Lib.hid ((((HY6.out.far (p := ⟨X, 0, none⟩) HYX.out (.slice none 0 0)).far (p := ⟨X, 1, none⟩) HYX.out (.slice none 0 0)).set 0 (.int .i64 3)).set 1 (.int .i64 ((j : Int) - 1)))
            have HKF := Lib.hid ((((HKW.out.setCell (p := ⟨X, 0, none⟩) (.inr HXW.out) (.slice none 0 0)).setCell (p := ⟨X, 1, none⟩) (.inr HXW.out) (.slice none 0 0)).setCell (p := ⟨Y, 0, none⟩) (.inr HYW.out) (.int .i64 3)).setCell (p := ⟨Y, 1, none⟩) (.inr HYW.out) (.int .i64 ((j : Int) - 1)))
            go_wp2
            (try simp only [Exit.inBlock, Exit.then])
            refine bodyPost_ret (results_cells2 rfl _ _ X Y _ _ _ _ _ _ _ _ rfl rfl HXF.out HYF.out Tryz.underlying25 rfl (by kernel_rfl) Tryz.underlying47 rfl (by kernel_rfl)) rfl ?_
            exact ⟨by rw [hRR.out, HPQ.out]; rfl, HKF.out⟩
end Go.Proofs.YtpagiajlefejcaaGreatDoor
namespace Go.Proofs.YtpagiajlefejcaaGreatDoor
open Go.RowKit Go.BigFrame
attribute [local go_sem] bs_size bs_extract bs_append bs_toList
def SmallT (t : Tb) : Prop := t.cols.length ≤ 10 ∧ t.rows.length ≤ 70 ∧ (∀ x ∈ t.cols, x.name.length ≤ 40) ∧ ∀ r ∈ t.rows, r.length ≤ 10 ∧ ∀ v ∈ r, v.word.length ≤ 40
def SmallOut (t : Tb) (e : Ending) : Prop := ∃ r, e = .returned (.bool r) ∧ (r = true → SmallT t)
theorem small_no {t : Tb} {e : Ending} (he : e = .returned (.bool false)) : SmallOut t e := ⟨false, he, fun h => by cases h⟩
set_option maxRecDepth 100000 in
set_option maxHeartbeats 8000000 in
theorem smallL_any (t : Tb) (A B : Option Addr) (c d : Nat) (w : World) (hA : Rd w [] 2 A t.cols.length (csCells t.cols)) (hB : RdRows w [] B t.rows) :
  Calls Tryz.prog 7 #[tAgg A t.cols.length c B t.rows.length d] w fun e w' => SmallOut t e ∧ Keeps [] w w' := by
 have hal := (Keeps.refl [] w).alloc (.cells #[.slice A t.cols.length c, .slice B t.rows.length d] 25)
 have hbx := Blk.new w 25 #[.slice A t.cols.length c, .slice B t.rows.length d]
 have HA := Lib.hid (hA.keep hal)
 have HB := Lib.hid (hB.keep hal)
 have HK := Lib.hid hal
 clear hA hB hal
 show Calls _ _ #[.agg #[.slice A t.cols.length c, .slice B t.rows.length d]] w _
 go_enter Tryz.func7, Tryz.ntmps7
 by_cases h1 : 10 < t.cols.length
 ·have h1' : (10 : Int) < (t.cols.length : Int) := by omega
  clear h1 hbx
  go_wp2
  go_ret
  exact ⟨small_no (by rfl), HK.out⟩
 have h1' : ¬ (10 : Int) < (t.cols.length : Int) := by omega
 by_cases h2 : 70 < t.rows.length
 ·have h2' : (70 : Int) < (t.rows.length : Int) := by omega
  clear h1 h2 hbx
  go_wp2
  go_ret
  exact ⟨small_no (by rfl), HK.out⟩
 have h2' : ¬ (70 : Int) < (t.rows.length : Int) := by omega
 have H12 := Lib.hid (And.intro h1 h2)
 clear h1 h2
 have HX := Lib.hid hbx
 clear hbx
 go_wp2_with fail
 obtain ⟨w1, hw1⟩ : ∃ z, w.alloc (.cells #[.slice A t.cols.length c, .slice B t.rows.length d] 25) = z := ⟨_, rfl⟩
 rw [hw1] at HX HA HB HK ⊢
 generalize w.heap.size = X at HX ⊢
 clear hw1
 go_loopw [3] (fun i wr => ∃ n : Nat, n ≤ t.cols.length ∧ i = .int .i64 n ∧ Hid (∀ j (h : j < t.cols.length), j < n → t.cols[j].name.length ≤ 40) ∧ Hid (Keeps [] w1 wr)) (fun i _ => t.cols.length - (intOf i).toNat)
 case atStart => exact ⟨0, Nat.zero_le _, rfl, Lib.hid (fun j h hj => absurd hj (by omega)), Lib.hid (Keeps.refl _ _)⟩
 case round =>
  obtain ⟨n, hn, rfl, HN, HK1⟩ := hrel
  obtain ⟨z, rfl⟩ : ∃ z : World, z = wr := ⟨_, rfl⟩
  have x0 : z.cell? ⟨X, 0, none⟩ = some (.slice A t.cols.length c) := (HX.out.keep HK1.out (by simp)).cell 0
  by_cases hlt : n < t.cols.length
  ·have hi : (n : Int) < (t.cols.length : Int) := by omega
   obtain ⟨g, o, rfl, _, hg, hcs⟩ := (HA.out.keep HK1.out).open' (by omega) (by omega)
   have d1 := hcs (n * 2) _ (csCells_at t.cols n hlt).1
   obtain ⟨nm, hnm⟩ : ∃ nm, (t.cols[n]).name = nm := ⟨_, rfl⟩
   rw [hnm] at d1
   have HNM := Lib.hid hnm
   have HKZ := Lib.hid (HK.out.trans HK1.out)
   clear hcs hnm
   by_cases h40 : 40 < nm.length
   ·have h40' : (40 : Int) < (nm.length : Int) := by omega
    go_wp2
    go_ret
    exact ⟨small_no (by rfl), HKZ.out⟩
   ·have h40' : ¬ (40 : Int) < (nm.length : Int) := by omega
    have HN2 : Hid (∀ j (h : j < t.cols.length), j < n + 1 → t.cols[j].name.length ≤ 40) := Lib.hid (fun j h hj => by
     by_cases hjn : j < n
     ·exact HN.out j h hjn
     ·obtain rfl : j = n := by omega
      rw [HNM.out]; omega)
    go_wp2
    go_roundw
    case rel => exact ⟨n + 1, by omega, by go_num, HN2, HK1⟩
    case measure => simp [intOf]; omega
  ·have hi : ¬ (n : Int) < (t.cols.length : Int) := by omega
   have HCOL : Hid (∀ x ∈ t.cols, x.name.length ≤ 40) := Lib.hid (fun x hx => by
    obtain ⟨j, hj, rfl⟩ := List.getElem_of_mem hx
    exact HN.out j hj (by omega))
   have HKZ := Lib.hid (HK.out.trans HK1.out)
   have HXZ := Lib.hid (HX.out.keep HK1.out (by simp))
   have HBZ := Lib.hid (HB.out.keep HK1.out)
   clear HN HK1 HX HB HA HK
   go_wp2_with fail
   go_loopw [4] (fun i wr => ∃ m : Nat, m ≤ t.rows.length ∧ i = .int .i64 m ∧ Hid (∀ j (h : j < t.rows.length), j < m → t.rows[j].length ≤ 10 ∧ ∀ v ∈ t.rows[j], v.word.length ≤ 40) ∧ Hid (Keeps [] z wr)) (fun i _ => t.rows.length - (intOf i).toNat)
   case atStart => exact ⟨0, Nat.zero_le _, rfl, Lib.hid (fun j h hj => absurd hj (by omega)), Lib.hid (Keeps.refl _ _)⟩
   case round =>
    obtain ⟨m, hm, rfl, HM, HK2⟩ := hrel
    obtain ⟨y, rfl⟩ : ∃ z : World, z = wr := ⟨_, rfl⟩
    have x1 : y.cell? ⟨X, 1, none⟩ = some (.slice B t.rows.length d) := (HXZ.out.keep HK2.out (by simp)).cell 1
    have HKY := Lib.hid (HKZ.out.trans HK2.out)
    by_cases hlm : m < t.rows.length
    ·have hi2 : (m : Int) < (t.rows.length : Int) := by omega
     obtain ⟨us, hul, hu1, hu2⟩ := HBZ.out.keep HK2.out
     obtain ⟨g1, o1, rfl, _, l1, q1⟩ := hu1.open' (by omega) (by omega)
     have e0 := q1 m _ (List.getElem?_eq_getElem (by omega))
     obtain ⟨Ar, cr, hue, _, hRr⟩ := hu2 m (by omega) hlm
     rw [hue] at e0
     obtain ⟨r, hr⟩ : ∃ r, t.rows[m] = r := ⟨_, rfl⟩
     rw [hr] at e0 hRr
     have HR := Lib.hid hr
     have HRR := Lib.hid hRr
     have HX1 := Lib.hid x1
     have HE0 := Lib.hid e0
     clear q1 hu1 hu2 hul hue hr hRr
     by_cases h10 : 10 < r.length
     ·have h10' : (10 : Int) < (r.length : Int) := by omega
      go_wp2
      go_ret
      exact ⟨small_no (by rfl), HKY.out⟩
     ·have h10' : ¬ (10 : Int) < (r.length : Int) := by omega
      go_wp2_with fail
      go_loopw [5] (fun i wr => ∃ k : Nat, k ≤ r.length ∧ i = .int .i64 k ∧ Hid (∀ j (h : j < r.length), j < k → r[j].word.length ≤ 40) ∧ Hid (Keeps [] y wr)) (fun i _ => r.length - (intOf i).toNat)
      case atStart => exact ⟨0, Nat.zero_le _, rfl, Lib.hid (fun j h hj => absurd hj (by omega)), Lib.hid (Keeps.refl _ _)⟩
      case round =>
       clear x1 e0
       obtain ⟨k, hk, rfl, HV, HK3⟩ := hrel
       obtain ⟨u, rfl⟩ : ∃ z : World, z = wr := ⟨_, rfl⟩
       have x1 : u.cell? ⟨X, 1, none⟩ = some (.slice (some ⟨g1, o1, none⟩) t.rows.length d) := HK3.out.cell_of HX1.out (by simp)
       have e0 := HK3.out.cell_of HE0.out (by simp)
       by_cases hlk : k < r.length
       ·have hi3 : (k : Int) < (r.length : Int) := by omega
        obtain ⟨g2, o2, rfl, _, l2, q2⟩ := (HRR.out.keep HK3.out).open' (by omega) (by omega)
        have f2 := q2 _ _ (vsCells_at r k hlk).2.2
        rw [← Nat.add_assoc] at f2
        obtain ⟨wd, hwd⟩ : ∃ wd, (r[k]).word = wd := ⟨_, rfl⟩
        rw [hwd] at f2
        have HWD := Lib.hid hwd
        have HKU := Lib.hid (HKY.out.trans HK3.out)
        clear q2 hwd
        by_cases h40 : 40 < wd.length
        ·have h40' : (40 : Int) < (wd.length : Int) := by omega
         go_wp2
         go_ret
         exact ⟨small_no (by rfl), HKU.out⟩
        ·have h40' : ¬ (40 : Int) < (wd.length : Int) := by omega
         have HV2 : Hid (∀ j (h : j < r.length), j < k + 1 → r[j].word.length ≤ 40) := Lib.hid (fun j h hj => by
          by_cases hjn : j < k
          ·exact HV.out j h hjn
          ·obtain rfl : j = k := by omega
           rw [HWD.out]; omega)
         go_wp2
         go_roundw
         case rel => exact ⟨k + 1, by omega, by go_num, HV2, HK3⟩
         case measure => simp [intOf]; omega
       ·have hi3 : ¬ (k : Int) < (r.length : Int) := by omega
        have HM2 : Hid (∀ j (h : j < t.rows.length), j < m + 1 → t.rows[j].length ≤ 10 ∧ ∀ v ∈ t.rows[j], v.word.length ≤ 40) := Lib.hid (fun j h hj => by
         by_cases hjn : j < m
         ·exact HM.out j h hjn
         ·obtain rfl : j = m := by omega
          rw [HR.out]
          refine ⟨by omega, fun v hv => ?_⟩
          obtain ⟨i, hi, rfl⟩ := List.getElem_of_mem hv
          exact HV.out i hi (by omega))
        have HK4 := Lib.hid (HK2.out.trans HK3.out)
        go_wp2
        go_roundw
        case rel => exact ⟨m + 1, by omega, by go_num, HM2, HK4⟩
        case measure => simp [intOf]; omega
    ·have hi2 : ¬ (m : Int) < (t.rows.length : Int) := by omega
     go_wp2
     go_ret
     refine ⟨⟨true, by rfl, fun _ => ⟨by have := H12.out.1; omega, by have := H12.out.2; omega, HCOL.out, fun r hr => ?_⟩⟩, HKY.out⟩
     obtain ⟨j, hj, rfl⟩ := List.getElem_of_mem hr
     exact HM.out j hj (by omega)
end Go.Proofs.YtpagiajlefejcaaGreatDoor
namespace Go.Proofs.YtpagiajlefejcaaGreatDoor
open Go.RowKit
structure TabRd (w : World) (t : Tb) (A B : Option Addr) : Prop where
 cols : Rd w [] 2 A t.cols.length (csCells t.cols)
 rows : RdRows w [] B t.rows
 ln : t.cols.length ≤ 4294967296
 lm : t.rows.length ≤ 4294967296
 lr : ∀ r ∈ t.rows, r.length ≤ 4294967296
theorem TabRd.quiet {w w' : World} {t : Tb} {A B : Option Addr} (h : TabRd w t A B) (hk : Keeps [] w w') : TabRd w' t A B := ⟨h.cols.keep hk, h.rows.keep hk, h.ln, h.lm, h.lr⟩
end Go.Proofs.YtpagiajlefejcaaGreatDoor
