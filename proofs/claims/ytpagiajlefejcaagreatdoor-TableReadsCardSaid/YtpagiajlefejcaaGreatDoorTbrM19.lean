/- table.Parse. strings.Builder, at this program: WriteByte. table.Print. -/
import Derived.Test.YtpagiajlefejcaaGreatDoorTbrM14
import Derived.Deep.DeepCutAuto
import Derived.Test.YtpagiajlefejcaaGreatDoorTbrM1
import Derived.Test.YtpagiajlefejcaaGreatDoorTbrM7
import Derived.Test.YtpagiajlefejcaaGreatDoorTbrM13
set_option linter.unusedSimpArgs false
set_option linter.unusedVariables false
namespace Go.Proofs.YtpagiajlefejcaaGreatDoor
open Go.RowKit
attribute [local go_sem] bs_size bs_extract bs_append bs_toList
set_option maxRecDepth 100000 in
set_option maxHeartbeats 8000000 in
theorem tparse_any (s : Bs) (hs : s.length ≤ 1000000) (w : World) (hE : TEnv w) :
    Calls Tryz.prog 26 #[.string (bs s)] w fun e w' => ParseOut (parseL s) e w' ∧ Keeps [] w w' := by
  obtain ⟨ic, hic, hcz0, hcz1, hcz2⟩ := info_parts cinfo
  obtain ⟨iv, hiv, hvz0, hvz1, hvz2⟩ := info_parts vinfo
  obtain ⟨ir, hir, hrz0, hrz1, hrz2⟩ := info_parts rinfo
  have HE := Lib.hid hE
  have HSP := Lib.hid (fun W (q : Keeps [] w W) => split_at 10 s (by omega) W (hE.quiet q))
  clear hE
  go_enter Tryz.func26, Tryz.ntmps26
  go_wp2_with fail
  refine (HSP.out _ ((Keeps.refl _ _).alloc _)).mono ?_
  rintro e w2 ⟨b1, o1, rfl, _, hb1, hc1, hk2⟩
  obtain ⟨l0, hl0⟩ : ∃ l0, (splitC 10 s).headD [] = l0 := ⟨_, rfl⟩
  obtain ⟨N, hN⟩ : ∃ N, (splitC 10 s).length = N := ⟨_, rfl⟩
  have hln := splitC_len 10 s
  have d0 : w2.cell? ⟨b1, o1, none⟩ = some (.string (bs l0)) := by
    have h := hc1 0 _ (strs_at' (splitC 10 s) 0 hln.2.1)
    rw [Nat.add_zero] at h
    rw [h, ← hl0]
    congr 3
    exact get0_headD hln.2.1
  have HK2 := Lib.hid (((Keeps.refl [] w).alloc (.cells #[.slice none 0 0, .slice none 0 0] 25)).trans hk2)
  have hbr := (Blk.new w 25 #[.slice none 0 0, .slice none 0 0]).keep hk2 (by simp)
  obtain ⟨br, hbr0⟩ : ∃ br, w.heap.size = br := ⟨_, rfl⟩
  rw [hbr0] at hbr
  have HBR := Lib.hid hbr
  have HB0 := Lib.hid hbr0
  have HL0 := Lib.hid hl0
  have HNN := Lib.hid hN
  have HC1 := Lib.hid hc1
  have hl0l : l0.length ≤ 1000000 := by
    rw [← hl0]
    cases hsp : splitC 10 s with
    | nil => simp
    | cons a t => have := hln.2.2 a (by rw [hsp]; exact List.mem_cons_self ..); simp; omega
  have hN1 : 1 ≤ N := by omega
  have hN2 : N ≤ 1000001 := by omega
  have HS2 := Lib.hid (fun W (q : Keeps [] w2 W) => split_at 32 l0 (by omega) W (HE.out.quiet (HK2.out.trans q)))
  rw [hN]
  clear hk2 hbr hl0 hN hc1 hln HSP
  rw [hbr0]
  clear hbr0
  go_wp2_with fail
  refine (HS2.out _ ((Keeps.refl _ _).alloc _)).mono ?_
  rintro e w3 ⟨b2, o2, rfl, hb2g, hb2, hc2, hk3⟩
  have hbt := (Blk.new w2 25 #[.slice none 0 0, .slice none 0 0]).keep hk3 (by simp)
  obtain ⟨bt, hbt0⟩ : ∃ bt, w2.heap.size = bt := ⟨_, rfl⟩
  have hk23 := ((Keeps.refl [] w2).alloc (.cells #[.slice none 0 0, .slice none 0 0] 25)).trans hk3
  have HK3 := Lib.hid (HK2.out.trans hk23)
  have HBR3 := Lib.hid (HBR.out.keep hk23 (by simp))
  have HC1' := Lib.hid (fun (j : Nat) (u : Value) (h : (strs (splitC 10 s))[j]? = some u) => hk23.cell_of (HC1.out j u h) (by simp))
  have hb2t : b2 ≠ bt := by
    have h9 : w2.heap.size + 1 ≤ b2 := by simpa using hb2g
    omega
  have hb1t : b1 ≠ bt := by omega
  have hne : br ≠ bt := by have := HBR.out.lt; omega
  have hbtw : w.heap.size ≤ bt := by have := HK2.out.size; omega
  have hbrw : w.heap.size ≤ br := by have := HB0.out; omega
  rw [hbt0] at hbt ⊢
  have HBT := Lib.hid hbt
  have HC2 := Lib.hid hc2
  have hb13 : b1 < w3.heap.size := Nat.lt_of_lt_of_le hb1 hk23.size
  have hl2 := splitC_len 32 l0
  obtain ⟨M, hM⟩ : ∃ M, (splitC 32 l0).length = M := ⟨_, rfl⟩
  have HMM := Lib.hid hM
  have hM1 : 1 ≤ M := by omega
  have hM2 : M ≤ 1000001 := by omega
  have hpl := hl2.2.2
  have HPL := Lib.hid hpl
  rw [hM]
  clear hk3 hk23 hbt hbt0 hc2 hl2 hM hpl HS2 HBR HK2 HC1 hb1 d0
  go_wp2
  go_loopw [28] (fun i wr => ∃ (n : Nat) (v : Value), n ≤ M ∧ i = .int .i64 n ∧ wr.ownsRow w3.heap.size 109 2 v n (csCells ((colsP l0).take n)) ∧ Blk wr bt 25 #[v, .slice none 0 0] ∧ Keeps [bt] w3 wr) (fun i _ => M - (intOf i).toNat)
  case atStart => exact ⟨0, _, Nat.zero_le _, rfl, World.ownsRow_nil _ _ _ _, HBT.out, Keeps.refl _ _⟩
  case round =>
    obtain ⟨n, v, hn, rfl, hown, hbt, hk3r⟩ := hrel
    have hk := HK3.out.trans' hk3r (fun y hy hl => by simp at hy; omega)
    by_cases hlt : n < M
    · -- BEGIN cols
      obtain ⟨u, hu⟩ : ∃ u, (splitC 32 l0)[n]'(by rw [HMM.out]; exact hlt) = u := ⟨_, rfl⟩
      have d1 : wr.cell? ⟨b2, o2 + n, none⟩ = some (.string (bs u)) := by
        have h := HC2.out n _ (strs_at' (splitC 32 l0) n (by rw [HMM.out]; exact hlt))
        rw [hu] at h
        refine hk3r.cell_of h ?_
        simpa using hb2t
      have hul : u.length ≤ 1000000 := by
        rw [← hu]
        exact Nat.le_trans (HPL.out _ (List.getElem_mem _)) hl0l
      have hcl := cutC_len 58 u
      have HCU := Lib.hid (fun W (q : Keeps [] wr W) => cut1_any 58 u (by omega) W (HE.out.quiet (hk.trans q)))
      have hnx : csCells ((colsP l0).take (n + 1)) = csCells ((colsP l0).take n) ++ cCells (colP u) := by
        rw [csCells_take _ _ (by rw [colsP_len, HMM.out]; exact hlt), ← hu]
        simp [colsP]
      have HBT2 := Lib.hid hbt
      have HK := Lib.hid hk
      have HK3R := Lib.hid hk3r
      have HO := Lib.hid hown
      clear hbt hk hk3r hown hu
      go_wp2_with fail
      refine (HCU.out _ (Keeps.refl _ _)).mono ?_
      rintro e w5 ⟨⟨fb, rfl⟩, hk5⟩
      have HCP : Hid (colP u = ⟨(cutC 58 u).1, kix (cutC 58 u).2⟩) := Lib.hid rfl
      have HIK := Lib.hid (fun W (q : Keeps [] w5 W) => index_kinds' (cutC 58 u).2 W (HE.out.quiet ((HK.out.trans hk5).trans q)))
      rw [HCP.out] at hnx
      have hnx2 : csCells ((colsP l0).take (n + 1)) = csCells ((colsP l0).take n) ++ [.string (bs (cutC 58 u).1), .int .i64 (max (kixI (cutC 58 u).2) 0)] := by rw [hnx, kixI_max]; rfl
      have HNX := Lib.hid hnx2
      clear hnx hnx2 HCP
      generalize (cutC 58 u).1 = c1 at *
      generalize (cutC 58 u).2 = c2 at *
      generalize kixI c2 = q at *
      have hbt5 := HBT2.out.keep hk5 (by simp)
      have fS : w5.cell? ⟨bt, 0, none⟩ = some v ∧ w5.frozen? ⟨bt, 0, none⟩ = false := ⟨by rw [hbt5.cell]; rfl, hbt5.frozen 0⟩
      have HO5 := Lib.hid (own_keep HO.out hk5 (fun _ _ => by simp))
      have hv1 : v.ownBlock ≠ some bt := row_ne HO5.out hbt5 (by decide)
      have HWS := Lib.hid (show w3.heap.size ≤ w5.heap.size from Nat.le_trans HK3R.out.size hk5.size)
      have HBT5 := Lib.hid hbt5
      have HK5 := Lib.hid hk5
      clear hbt5 hk5 hcl HCU
      go_wp2_with fail
      go_region_law (first | (refine step_append_lies _ (by rfl) _ _ _ (by rfl) w3.heap.size 109 ic _ 2 24 Tryz.underlying22 hic hcz0 hcz1 hcz2 rfl (by decide) v n (csCells ((colsP l0).take n)) (by rfl) (row_alloc_of HO5.out (by assumption)) ⟨w6.heap.size, 0, none⟩ 1 1 [.string (bs c1), .int .i64 (max q 0)] (by rfl) rfl (World.news_of_block (heap_alloc_new _ _)) (by simp [Value.oneCell']) (by decide) (by simp only [maxLen]; omega) (by omega) (le_base HWS.out (by assumption)) _ rfl ?_; intro gw cap w7 hown7 hgrow7 hat7 hlt7; obtain ⟨fS7, fZ7⟩ := fld_grown hgrow7 (fld_alloc (fld_keeps hk6 fS (by simp)) _) hv1) | (go_simp; go_at_call 70; refine (HIK.out _ (Keeps.refl [] w5).drew).mono ?_; rintro e w6 ⟨rfl, hk6⟩; obtain ⟨fS6, fZ6⟩ := fld_keeps hk6 fS (by simp); have gl6 : bt < w6.heap.size := World.block_lt_of_cell? w6 ⟨bt, 0, none⟩ fS6))
      all_goals go_wp2
      all_goals go_roundw
      all_goals first
        | (simp [intOf]; omega)
        | (have hst := cols_step (by decide) HK3R.out HK5.out HO5.out HBT5.out hk6 hown7 hgrow7
           exact ⟨n + 1, _, by omega, by go_num, by rw [HNX.out]; exact hst.1, hst.2.1, hst.2.2⟩)
    · obtain rfl : n = M := by omega
      have hrc := fun W (q : Keeps [] wr W) => cols_right HMM.out hM1 (by omega) hl0l (own_keep hown q (fun _ _ => by simp))
      have c0 : wr.cell? ⟨bt, 0, none⟩ = some v := by rw [hbt.cell]; rfl
      have HRC := Lib.hid hrc
      have HBT2 := Lib.hid hbt
      have HK := Lib.hid hk
      have HK3R := Lib.hid hk3r
      have HO := Lib.hid hown
      clear hbt hk hk3r hown hrc
      go_wp2_with fail
      refine (HRC.out _ (Keeps.refl _ _)).mono ?_
      rintro e w5 ⟨rfl, hk5⟩
      cases hcb : colsB (colsP l0) with
      | false =>
        have hR : Hid (parseL s = .bad 3 0) := Lib.hid (by unfold parseL; rw [HL0.out, hcb]; rfl)
        have HB6 := Lib.hid ((HBR3.out.keep HK3R.out (by simpa using hne)).keep hk5 (by simp))
        have HK5 := Lib.hid (HK.out.trans hk5)
        clear hk5 c0
        go_wp2_with fail
        refine (fail_any 3 0 _).mono ?_
        rintro e w6 ⟨g, rfl, hg, hk6⟩
        have B6 := HB6.out.keep hk6 (by simp)
        have c0 : w6.cell? ⟨br, 0, none⟩ = some (.slice none 0 0) := B6.cell 0
        have c1 : w6.cell? ⟨br, 1, none⟩ = some (.slice none 0 0) := B6.cell 1
        have f0 := B6.frozen 0
        have f1 := B6.frozen 1
        go_wp2
        refine bodyPost_ret (v := .tuple #[.agg #[.slice none 0 0, .slice none 0 0], .iface 136 (.pointer (some ⟨g, 0, none⟩))]) (by simp [results, Tryz.results26, go_sem, c0, c1]) rfl ⟨?_, ?_⟩
        · rw [hR.out]
          have hgb : g ≠ br := hg.ne B6 (by decide)
          exact ⟨g, rfl, (hg.far hgb _).far hgb _⟩
        · exact ((HK5.out.trans hk6).setCell (.inr hbrw) _).setCell (.inr hbrw) _
      | true =>
        have hR : Hid (parseL s = linesP (colsP l0) (splitC 10 s).tail 0 []) := Lib.hid (by unfold parseL; rw [HL0.out, hcb]; rfl)
        have HB5 := Lib.hid ((HBR3.out.keep HK3R.out (by simpa using hne)).keep hk5 (by simp))
        have HBT5 := Lib.hid (HBT2.out.keep hk5 (by simp))
        have HK5 := Lib.hid (HK.out.trans hk5)
        have HC5 := Lib.hid (fun (j : Nat) (u : Value) (h : (strs (splitC 10 s))[j]? = some u) => hk5.cell_of (HK3R.out.cell_of (HC1'.out j u h) (by simpa using hb1t)) (by simp))
        have hl1 : (1 : Int) ≤ (N : Int) := by omega
        have HO5 := Lib.hid (own_keep HO.out hk5 (fun _ _ => by simp))
        have hb15 : b1 < w5.heap.size := Nat.lt_of_lt_of_le hb13 (Nat.le_trans HK3R.out.size hk5.size)
        clear HRC HBT2 HK HK3R HO HBR3 HC1' HC2 HBT HK3 HPL c0 hk5 hb13
        obtain ⟨A1, HSL, hA1⟩ := slice_from1 b1 o1 N hN1 hN2
        obtain ⟨gv, cv, rfl, hcv, hgv, hgl, hcc⟩ := own_some HO5.out hM1
        have HGC := Lib.hid hcc
        clear hcc
        go_wp2_with fail
        go_loopw [61] (fun i wr => ∃ (m : Nat) (vr : Value) (rs : List (List Vl)), m ≤ N - 1 ∧ i = .int .i64 m ∧ Blk wr bt 25 #[.slice (some ⟨gv, 0, none⟩) n cv, vr] ∧ Rws wr w5.heap.size vr rs ∧ linesP (colsP l0) ((splitC 10 s).tail.drop m) m rs = parseL s ∧ (rs.length ≤ 60 ∧ ∀ r ∈ rs, r.length = n) ∧ Keeps [bt] w5 wr) (fun i _ => N - 1 - (intOf i).toNat)
        case atStart => exact ⟨0, _, [], Nat.zero_le _, rfl, HBT5.out, Rws.nil _ _, by rw [hR.out, List.drop_zero], by simp, Keeps.refl _ _⟩
        case round =>
          obtain ⟨m, vr, rs, hm, rfl, hbt, hrw, hlp, ⟨hrs, hrl⟩, hk5r⟩ := hrel
          have hk := HK5.out.trans' hk5r (fun y hy hl => by simp at hy; omega)
          have HRL := Lib.hid hrl
          clear hrl
          obtain ⟨B0, d0, hvr0, -, -⟩ := hrw.rd
          subst hvr0
          by_cases hlt : m < N - 1
          · obtain rfl := hA1 (by omega)
            have hmN : m + 1 < (splitC 10 s).length := by rw [HNN.out]; omega
            have hdr := drop_at (splitC 10 s) m hmN
            have hll : ((splitC 10 s)[m + 1]).length ≤ 1000000 := Nat.le_trans ((splitC_len 10 s).2.2 _ (List.getElem_mem _)) hs
            have d1 := hk5r.cell_of (HC5.out (m + 1) _ (strs_at' (splitC 10 s) (m + 1) hmN)) (by simpa using hb1t)
            have hrest : (splitC 10 s).tail.drop (m + 1) = [] ↔ m + 2 = N := by
              rw [List.drop_eq_nil_iff, List.length_tail, HNN.out]
              omega
            rw [hdr] at hlp
            generalize (splitC 10 s)[m + 1] = l at *
            have d1' : wr.cell? ⟨b1, o1 + 1 + m, none⟩ = some (.string (bs l)) := by rw [show o1 + 1 + m = o1 + (m + 1) by omega]; exact d1
            have HLP := Lib.hid hlp
            have HRW := Lib.hid hrw
            have HBT6 := Lib.hid hbt
            have HKR := Lib.hid hk5r
            have HKW := Lib.hid hk
            have HRE := Lib.hid hrest
            clear hlp hrw hbt hk5r hk hrest hdr d1 hmN
            go_upto_region 15 with (fail)
            go_cut [61, 74] from 61 to 152 (fun i t wx => i = .int .i64 m ∧ t = .bool (decide (m + 2 = N ∧ l = [])) ∧ wx = wr)
            case first =>
              by_cases hm2 : m + 2 = N
              · have t1 : ((m : Int) == (N : Int) - 2) = true := by rw [beq_iff_eq]; omega
                cases l with
                | nil =>
                  go_wp2
                  go_meet
                  exact ⟨rfl, by simp [hm2], rfl⟩
                | cons a t =>
                  go_wp2
                  go_meet
                  exact ⟨rfl, by simp, rfl⟩
              · have t1 : ((m : Int) == (N : Int) - 2) = false := by rw [beq_eq_false_iff_ne]; omega
                go_wp2
                go_meet
                exact ⟨rfl, by simp [hm2], rfl⟩
            case rest =>
              obtain ⟨rfl, rfl, rfl⟩ := hcut
              have hB := HB5.out.keep HKR.out (by simpa using hne)
              have HBx := Lib.hid hB
              by_cases hlast : m + 2 = N ∧ l = []
              · rw [decide_eq_true hlast]
                have x0 : wc.cell? ⟨bt, 0, none⟩ = some (.slice (some ⟨gv, 0, none⟩) n cv) := HBT6.out.cell 0
                have x1 : wc.cell? ⟨bt, 1, none⟩ = some (.slice B0 rs.length d0) := HBT6.out.cell 1
                have c0 : wc.cell? ⟨br, 0, none⟩ = some (.slice none 0 0) := hB.cell 0
                have c1 : wc.cell? ⟨br, 1, none⟩ = some (.slice none 0 0) := hB.cell 1
                have f0 := hB.frozen 0
                have f1 := hB.frozen 1
                have hRR : Hid (parseL s = .ok ⟨colsP l0, rs⟩) := Lib.hid (by rw [← HLP.out]; unfold linesP; rw [if_pos ⟨HRE.out.2 hlast.1, hlast.2⟩])
                clear hlast hB
                go_wp2
                have hlen : (colsP l0).length = n := by rw [colsP_len, HMM.out]
                have hov := own_keepb HO5.out HKR.out HBT5.out (by decide)
                rw [List.take_of_length_le (by omega)] at hov
                have hov2 := own_set (i := 1) (u := .slice B0 rs.length d0) (own_set (i := 0) (u := .slice (some ⟨gv, 0, none⟩) n cv) hov HBx.out (by decide)) (HBx.out.set 0 _) (by decide)
                have hrw2 := Rws.set (i := 1) (u := .slice B0 rs.length d0) (Rws.set (i := 0) (u := .slice (some ⟨gv, 0, none⟩) n cv) HRW.out HBx.out (by decide) (by decide)) (HBx.out.set 0 _) (by decide) (by decide)
                obtain ⟨A, B, c, d, e1, e2, hT⟩ := tabIn_of hlen hov2 hrw2 (fun x hx => Nat.le_trans (colsP_names l0 x hx) (by omega)) (by omega) hrs (fun r hr => by have := HRL.out r hr; omega)
                refine bodyPost_ret (v := .tuple #[.agg #[.slice (some ⟨gv, 0, none⟩) n cv, .slice B0 rs.length d0], .nilIface]) (by simp [results, Tryz.results26, go_sem, c0, c1]) rfl ⟨?_, ?_⟩
                · rw [hRR.out]
                  refine ⟨A, B, c, d, ?_, ?_⟩
                  · unfold tAgg; simp only; rw [← e1, ← e2]
                  · exact hT
                · exact (HKW.out.setCell (.inr hbrw) _).setCell (.inr hbrw) _
              · rw [decide_eq_false hlast]
                have hLL : linesP (colsP l0) (l :: (splitC 10 s).tail.drop (m + 1)) m rs = (match lineL (colsP l0) l with
                  | none => .bad 3 (m + 1)
                  | some r => if rs.length = 60 then .bad 4 (m + 1) else linesP (colsP l0) ((splitC 10 s).tail.drop (m + 1)) (m + 1) (rs ++ [r])) := by
                  conv => lhs; unfold linesP
                  rw [if_neg (fun h => hlast ⟨HRE.out.1 h.1, h.2⟩)]
                  cases lineL (colsP l0) l <;> rfl
                rw [HLP.out] at hLL
                have HLL := Lib.hid hLL
                clear hLL hlast hB HLP
                go_wp2_with fail
                refine (cut_any l (by omega) _).mono ?_
                rintro e w6 ⟨A6, c6, rfl, ho6, hk6⟩
                obtain ⟨K, hK⟩ : ∃ K, (cutL l).length = K := ⟨_, rfl⟩
                have hK1 : 1 ≤ K := by rw [← hK]; unfold cutL; simp
                have hKl : K ≤ 1000001 := by rw [← hK]; have := (cutS_from l l.length).2; unfold cutL; simp; omega
                rw [hK] at ho6 ⊢
                obtain ⟨gc, cc, e6, hcc6, hgc, hgc6, hcell6⟩ := own_some ho6 hK1
                injection e6 with e6 _ e7
                subst e6
                have HKK := Lib.hid hK
                have HC6 := Lib.hid hcell6
                have HK6 := Lib.hid hk6
                have HBT7 := Lib.hid (HBT6.out.keep hk6 (by simp))
                have HB7 := Lib.hid (HBx.out.keep hk6 (by simp))
                have HRW7 := Lib.hid (HRW.out.keep hk6)
                have HKW7 := Lib.hid (HKW.out.trans hk6)
                clear hK ho6 hcell6 hk6 e7
                go_wp2_with fail
                go_loopw [14, 79] (fun vq i wx => ∃ (k : Nat) (q : List Vl), k ≤ K ∧ q.length = k ∧ i = .int .i64 k ∧ wx.ownsRow w6.heap.size 27 3 vq k (vsCells q) ∧ valsP ((cutL l).drop k) q = valsP (cutL l) [] ∧ Keeps [] w6 wx) (fun _ i _ => K - (intOf i).toNat)
                case atStart => exact ⟨0, [], Nat.zero_le _, rfl, rfl, World.ownsRow_nil _ _ _ _, by rw [List.drop_zero], Keeps.refl _ _⟩
                case round =>
                  obtain ⟨k, q, hk, hq, rfl, hoq, hvp, hk6r⟩ := hrel
                  by_cases hlk : k < K
                  · have hkl : k < (cutL l).length := by rw [HKK.out]; exact hlk
                    rw [valsP_step hkl] at hvp
                    have d2 := hk6r.cell_of (HC6.out k _ (strs_at' (cutL l) k hkl)) (by simp)
                    have hpl : ((cutL l)[k]).length ≤ 1000000 := Nat.le_trans (cutL_len l _ (List.getElem_mem _)) hll
                    generalize (cutL l)[k] = p at *
                    have HBr := Lib.hid (HB7.out.keep hk6r (by simp))
                    have HKr := Lib.hid (HKW7.out.trans hk6r)
                    cases hpv : pvL p with
                    | none =>
                      rw [hpv] at hvp
                      have HPV := Lib.hid (fun W (x : Keeps [] wr W) => pval_none hpv (by omega) W (HE.out.quiet (HKr.out.trans x)))
                      have hRR : Hid (parseL s = .bad 3 (m + 1)) := Lib.hid (by rw [HLL.out]; unfold lineL; rw [← hvp])
                      clear hvp hoq hk6r hpv
                      go_wp2_with fail
                      refine (HPV.out _ (Keeps.refl _ _)).mono ?_
                      rintro e w7 ⟨rfl, hk7⟩
                      have HK7 := Lib.hid hk7
                      clear hk7
                      go_wp2_with fail
                      refine (fail_any 3 ((m : Int) + 1) _).mono ?_
                      rintro e w16 ⟨g, rfl, hg, hk16⟩
                      have B16 := ((HBr.out.keep HK7.out (by simp)).alloc _).keep hk16 (by simp)
                      have c0 : w16.cell? ⟨br, 0, none⟩ = some (.slice none 0 0) := B16.cell 0
                      have c1 : w16.cell? ⟨br, 1, none⟩ = some (.slice none 0 0) := B16.cell 1
                      have f0 := B16.frozen 0
                      have f1 := B16.frozen 1
                      go_wp2
                      refine bodyPost_ret (v := .tuple #[.agg #[.slice none 0 0, .slice none 0 0], .iface 136 (.pointer (some ⟨g, 0, none⟩))]) (by simp [results, Tryz.results26, go_sem, c0, c1]) rfl ⟨?_, ?_⟩
                      · rw [hRR.out]
                        have hgb : g ≠ br := hg.ne B16 (by decide)
                        exact ⟨g, rfl, ((blk_num hg (by omega)).far hgb _).far hgb _⟩
                      · exact ((((HKr.out.trans HK7.out).alloc _).trans hk16).setCell (.inr hbrw) _).setCell (.inr hbrw) _
                    | some u =>
                      rw [hpv] at hvp
                      have HPV := Lib.hid (fun W (x : Keeps [] wr W) => pval_some hpv (by omega) W (HE.out.quiet (HKr.out.trans x)))
                      have HVP := Lib.hid hvp
                      have HOQ := Lib.hid hoq
                      have HK6R := Lib.hid hk6r
                      have HQ := Lib.hid hq
                      clear hvp hoq hk6r hpv hq
                      go_wp2_with fail
                      refine (HPV.out _ (Keeps.refl _ _)).mono ?_
                      rintro e w7 ⟨rfl, hk7⟩
                      have HK7 := Lib.hid hk7
                      have hz7 : w6.heap.size ≤ w7.heap.size := Nat.le_trans HK6R.out.size hk7.size
                      clear hk7
                      have HO7 := Lib.hid (own_keep HOQ.out HK7.out (fun _ _ => by simp))
                      have hbd := Lib.hid (show k + 1 ≤ maxLen ∧ (k + 1) * 32 ≤ 140737488355328 by simp only [maxLen]; omega)
                      go_wp2_with (at_builtin; (refine wpList_append_lies _ rfl _ _ 110 rfl w6.heap.size 27 iv _ 3 32 Tryz.underlying110 hiv hvz0 hvz1 hvz2 rfl (by decide) _ k (vsCells q) rfl ((HO7.out.alloc _).alloc _) ⟨w7.heap.size + 1, 0, none⟩ 1 1 [.int .i64 u.kind, .int .i64 u.num, .string (bs u.word)] rfl rfl (World.news_of_block (heap_two _ _ _)) (by simp [Value.oneCell']) (by decide) hbd.out.1 hbd.out.2 (by simp; omega) _ rfl ?_); intro gw cap2 w8 hown8 hgrow8 hat8 hlt8)
                      have HK8 := Lib.hid (((HK6R.out.trans HK7.out).alloc (.cells #[.int .i64 u.kind, .int .i64 u.num, .string (bs u.word)] 27)).alloc (.cells #[.int .i64 u.kind, .int .i64 u.num, .string (bs u.word)] 27) |>.grown hgrow8 (fun g hg => .inr (HOQ.out.lt g hg).1))
                      rw [← vsCells_snoc] at hown8
                      have HO8 := Lib.hid hown8
                      clear hown8 hgrow8 hat8 hlt8
                      go_wp2
                      go_roundw
                      case rel => exact ⟨k + 1, q ++ [u], by omega, by simp [HQ.out], by go_num, HO8.out, HVP.out, HK8.out⟩
                      case measure => simp [intOf]; omega
                  · obtain rfl : k = K := by omega
                    rw [List.drop_of_length_le (by rw [HKK.out]; exact Nat.le_refl _)] at hvp
                    obtain ⟨gq, cq, hvq, hcq, hgq, hgql, hqc⟩ := own_some hoq hK1
                    subst hvq
                    have hvl : lineL (colsP l0) l = if fits (colsP l0) q then some q else none := by unfold lineL; rw [← hvp]; rfl
                    have HVL := Lib.hid hvl
                    have HOQ := Lib.hid hoq
                    have HQC := Lib.hid hqc
                    have HQ := Lib.hid hq
                    have HBT8 := Lib.hid (HBT7.out.keep hk6r (by simp))
                    have HB8 := Lib.hid (HB7.out.keep hk6r (by simp))
                    have HRW8 := Lib.hid (HRW7.out.keep hk6r)
                    have HKW8 := Lib.hid (HKW7.out.trans hk6r)
                    have HK56 := Lib.hid ((HKR.out.trans (HK6.out.weaken (by simp))).trans (hk6r.weaken (by simp)))
                    have hgq5 : w5.heap.size ≤ gq := Nat.le_trans (Nat.le_trans HKR.out.size HK6.out.size) hgq
                    have hgqb : gq ≠ bt := fun e => row_ne HOQ.out HBT8.out (by decide) (by rw [e]; rfl)
                    have hgvb : gv ≠ bt := fun e => row_ne HO5.out HBT5.out (by decide) (by rw [e]; rfl)
                    have HGC8 := Lib.hid (fun (j : Nat) (u : Value) (h : (csCells ((colsP l0).take n))[j]? = some u) => HK56.out.cell_of (HGC.out j u h) (by simpa using hgvb))
                    have hlenc : (colsP l0).length = n := by rw [colsP_len, HMM.out]
                    have HLC := Lib.hid hlenc
                    have hn2 : n ≤ 1000001 := hM2
                    clear hvp hvl hoq hqc hq hk6r hlenc
                    obtain ⟨w8, rfl⟩ : ∃ w8 : World, w8 = wr := ⟨_, rfl⟩
                    have x0 : w8.cell? ⟨bt, 0, none⟩ = some (.slice (some ⟨gv, 0, none⟩) n cv) := HBT8.out.cell 0
                    have x1 : w8.cell? ⟨bt, 1, none⟩ = some (.slice B0 rs.length d0) := HBT8.out.cell 1
                    by_cases hkn : k = n
                    · subst hkn
                      have HGC9 : Hid (∀ (j : Nat) (u : Value), (csCells (colsP l0))[j]? = some u → w8.cell? ⟨gv, j, none⟩ = some u) := Lib.hid (by
                        have h := HGC8.out
                        rw [List.take_of_length_le (by rw [HLC.out]; exact Nat.le_refl _)] at h
                        exact h)
                      go_wp2_with fail
                      go_loopw [115] (fun i wx => ∃ j : Nat, j ≤ k ∧ i = .int .i64 j ∧ Hid (∀ x (h : x < j) (h1 : x < q.length) (h2 : x < (colsP l0).length), q[x].kind = (colsP l0)[x].kind) ∧ Keeps [] w8 wx) (fun i _ => k - (intOf i).toNat)
                      case atStart => exact ⟨0, Nat.zero_le _, rfl, fun x h => absurd h (by omega), Keeps.refl _ _⟩
                      case round =>
                        obtain ⟨j, hj, rfl, hks, hk8⟩ := hrel
                        have z0 := hk8.cell_of x0 (by simp)
                        have z1 := hk8.cell_of x1 (by simp)
                        by_cases hlj : j < k
                        · have hjq : j < q.length := by rw [HQ.out]; exact hlj
                          have hjc : j < (colsP l0).length := by rw [HLC.out]; exact hlj
                          obtain ⟨e0, e1, e2⟩ := vsCells_at q j hjq
                          obtain ⟨_, e4⟩ := csCells_at (colsP l0) j hjc
                          have y0 := hk8.cell_of (HQC.out _ _ e0) (by simp)
                          have y1 := hk8.cell_of (HQC.out _ _ e1) (by simp)
                          have y2 := hk8.cell_of (HQC.out _ _ e2) (by simp)
                          have y4 := hk8.cell_of (HGC9.out _ _ e4) (by simp)
                          have hl1' : bt < wr.heap.size := World.block_lt_of_cell? _ _ z0
                          have hl2' : gv < wr.heap.size := World.block_lt_of_cell? _ _ y4
                          have HK8 := Lib.hid hk8
                          obtain ⟨u, hu⟩ : ∃ u, q[j] = u := ⟨_, rfl⟩
                          obtain ⟨c, hc⟩ : ∃ c, (colsP l0)[j] = c := ⟨_, rfl⟩
                          rw [hu] at y0 y1 y2
                          rw [hc] at y4
                          have HU := Lib.hid hu
                          have HCC := Lib.hid hc
                          have hi0 : (0 : Int) ≤ (j : Int) := by omega
                          have hi1 : (j : Int) < (k : Int) := by omega
                          clear hu hc e0 e1 e2 e4 hk8
                          by_cases hkk : u.kind = c.kind
                          · have t1 : (u.kind != c.kind) = false := by rw [hkk]; simp
                            have HKK2 := Lib.hid hkk
                            clear hkk
                            go_wp2_with fail
                            go_quiet (fail)
                            go_wp2
                            go_roundw
                            case rel => exact ⟨j + 1, by omega, by go_num, fun x h h1 h2 => by
                              by_cases hx : x < j
                              · exact hks.out x hx h1 h2
                              · obtain rfl : x = j := by omega
                                rw [HU.out, HCC.out]; exact HKK2.out, (HK8.out.alloc _).drewN _⟩
                            case measure => simp [intOf]; omega
                          · have t1 : (u.kind != c.kind) = true := by rw [bne_iff_ne]; exact hkk
                            have hRR : Hid (parseL s = .bad 3 (m + 1)) := Lib.hid (by rw [HLL.out, HVL.out, fits_bad hjq hjc (by rw [HU.out, HCC.out]; exact hkk)]; rfl)
                            clear hkk
                            go_wp2_with fail
                            go_quiet (fail)
                            go_wp2_with fail
                            refine (fail_any 3 ((m : Int) + 1) _).mono ?_
                            rintro e w16 ⟨g, rfl, hg, hk16⟩
                            have B16 := (((HB8.out.keep HK8.out (by simp)).alloc _).drewN _).keep hk16 (by simp)
                            have c0 : w16.cell? ⟨br, 0, none⟩ = some (.slice none 0 0) := B16.cell 0
                            have c1 : w16.cell? ⟨br, 1, none⟩ = some (.slice none 0 0) := B16.cell 1
                            have f0 := B16.frozen 0
                            have f1 := B16.frozen 1
                            go_wp2
                            refine bodyPost_ret (v := .tuple #[.agg #[.slice none 0 0, .slice none 0 0], .iface 136 (.pointer (some ⟨g, 0, none⟩))]) (by simp [results, Tryz.results26, go_sem, c0, c1]) rfl ⟨?_, ?_⟩
                            · rw [hRR.out]
                              have hgb : g ≠ br := hg.ne B16 (by decide)
                              exact ⟨g, rfl, ((blk_num hg (by omega)).far hgb _).far hgb _⟩
                            · exact (((((HKW8.out.trans HK8.out).alloc _).drewN _).trans hk16).setCell (.inr hbrw) _).setCell (.inr hbrw) _
                        · obtain rfl : j = k := by omega
                          have hfit : fits (colsP l0) q = true := fits_true (by rw [HQ.out, HLC.out]) (fun x h1 h2 => hks.out x (by rw [HQ.out] at h1; exact h1) h1 h2)
                          have hrr : parseL s = if rs.length = 60 then .bad 4 (m + 1) else linesP (colsP l0) ((splitC 10 s).tail.drop (m + 1)) (m + 1) (rs ++ [q]) := by rw [HLL.out, HVL.out, if_pos hfit]
                          have HB9 := Lib.hid (HB8.out.keep hk8 (by simp))
                          have HKW9 := Lib.hid (HKW8.out.trans hk8)
                          have HK8 := Lib.hid hk8
                          clear hfit hk8
                          by_cases h60 : rs.length = 60
                          · have t1 : ((rs.length : Int) == 60) = true := by rw [beq_iff_eq]; omega
                            have hRR : Hid (parseL s = .bad 4 (m + 1)) := Lib.hid (by rw [hrr, if_pos h60])
                            clear hrr h60
                            go_wp2_with fail
                            refine (fail_any 4 ((m : Int) + 1) _).mono ?_
                            rintro e w16 ⟨g, rfl, hg, hk16⟩
                            have B16 := (HB9.out).keep hk16 (by simp)
                            have c0 : w16.cell? ⟨br, 0, none⟩ = some (.slice none 0 0) := B16.cell 0
                            have c1 : w16.cell? ⟨br, 1, none⟩ = some (.slice none 0 0) := B16.cell 1
                            have f0 := B16.frozen 0
                            have f1 := B16.frozen 1
                            go_wp2
                            refine bodyPost_ret (v := .tuple #[.agg #[.slice none 0 0, .slice none 0 0], .iface 136 (.pointer (some ⟨g, 0, none⟩))]) (by simp [results, Tryz.results26, go_sem, c0, c1]) rfl ⟨?_, ?_⟩
                            · rw [hRR.out]
                              have hgb : g ≠ br := hg.ne B16 (by decide)
                              exact ⟨g, rfl, ((blk_num hg (by omega)).far hgb _).far hgb _⟩
                            · exact (((HKW9.out).trans hk16).setCell (.inr hbrw) _).setCell (.inr hbrw) _
                          · have t1 : ((rs.length : Int) == 60) = false := by rw [beq_eq_false_iff_ne]; omega
                            rw [if_neg h60] at hrr
                            have HRR := Lib.hid hrr
                            clear hrr
                            obtain ⟨us, hus, hor, hel⟩ := HRW8.out.keep HK8.out
                            have HUS := Lib.hid hus
                            have HOR := Lib.hid hor
                            have HEL := Lib.hid hel
                            have HB10 := Lib.hid (HBT8.out.keep HK8.out (by simp))
                            have hzf : wr.frozen? ⟨bt, 1, none⟩ = false := HB10.out.frozen 1
                            have hbl : bt < wr.heap.size := HB10.out.lt
                            have hz5 : w5.heap.size ≤ wr.heap.size := Nat.le_trans HK56.out.size HK8.out.size
                            have hn1 : (Value.slice B0 rs.length d0).ownBlock ≠ some bt := row_ne HOR.out HB10.out (by decide)
                            clear hus hor hel
                            go_wp2_with (at_builtin; (refine wpList_append_lies _ rfl _ _ 23 rfl w5.heap.size 110 ir _ 1 24 Tryz.underlying23 hir hrz0 hrz1 hrz2 rfl (by decide) _ rs.length us rfl (HOR.out.alloc _) ⟨wr.heap.size, 0, none⟩ 1 1 [.slice (some ⟨gq, 0, none⟩) j cq] rfl rfl (World.news_of_block (heap_alloc_new _ _)) (by simp [Value.oneCell']) (by decide) (by simp only [maxLen]; omega) (by omega) (by simp; omega) _ rfl ?_); intro gw cap2 w9 hown9 hgrow9 hat9 hlt9; obtain ⟨fS9, fZ9⟩ := fld_grown hgrow9 (fld_alloc ⟨z1, hzf⟩ _) hn1)
                            have B9 : Blk w9 bt 25 #[.slice (some ⟨gv, 0, none⟩) j cv, .slice B0 rs.length d0] := (hgrow9.block bt (HB10.out.alloc _).lt (fun e => hn1 e.symm)).trans (HB10.out.alloc _)
                            have hoq9 : wr.ownsRow w5.heap.size 27 3 (.slice (some ⟨gq, 0, none⟩) j cq) q.length (vsCells q) := by
                              rw [HQ.out]
                              exact own_base (own_keep HOQ.out HK8.out (fun _ _ => by simp)) (Nat.le_trans HKR.out.size HK6.out.size)
                            have HRW9 := Lib.hid (rws_snoc HUS.out HEL.out HOR.out hoq9 hgrow9 hown9)
                            have HK9 : Hid (Keeps [bt] w5 w9) := Lib.hid (((HK56.out.trans (HK8.out.weaken (by simp))).alloc (.cells #[.slice (some ⟨gq, 0, none⟩) j cq] 110)).grown hgrow9 (fun g hg => .inr (HOR.out.lt g hg).1))
                            have HB9' := Lib.hid B9
                            clear hown9 hgrow9 hat9 hlt9 hoq9 B9
                            go_wp2
                            go_roundw
                            case rel => exact ⟨m + 1, _, rs ++ [q], by omega, by go_num, (HB9'.out.set 1 _).congr rfl, Rws.set HRW9.out HB9'.out (by decide) (by decide), HRR.out.symm, ⟨by simp; omega, fun r hr => by
                              rcases List.mem_append.1 hr with hr | hr
                              · exact HRL.out r hr
                              · rw [List.mem_singleton] at hr
                                rw [hr, HQ.out]⟩, HK9.out.setCell (.inl (by simp)) _⟩
                            case measure => simp [intOf]; omega
                    · have t1 : (k != n) = true := by rw [bne_iff_ne]; exact hkn
                      have t2 : ((k : Int) != (n : Int)) = true := by rw [bne_iff_ne]; omega
                      have hRR : Hid (parseL s = .bad 3 (m + 1)) := Lib.hid (by rw [HLL.out, HVL.out, fits_false (by rw [HQ.out, HLC.out]; exact hkn)]; rfl)
                      go_wp2_with fail
                      refine (fail_any 3 ((m : Int) + 1) _).mono ?_
                      rintro e w16 ⟨g, rfl, hg, hk16⟩
                      have B16 := (HB8.out).keep hk16 (by simp)
                      have c0 : w16.cell? ⟨br, 0, none⟩ = some (.slice none 0 0) := B16.cell 0
                      have c1 : w16.cell? ⟨br, 1, none⟩ = some (.slice none 0 0) := B16.cell 1
                      have f0 := B16.frozen 0
                      have f1 := B16.frozen 1
                      go_wp2
                      refine bodyPost_ret (v := .tuple #[.agg #[.slice none 0 0, .slice none 0 0], .iface 136 (.pointer (some ⟨g, 0, none⟩))]) (by simp [results, Tryz.results26, go_sem, c0, c1]) rfl ⟨?_, ?_⟩
                      · rw [hRR.out]
                        have hgb : g ≠ br := hg.ne B16 (by decide)
                        exact ⟨g, rfl, ((blk_num hg (by omega)).far hgb _).far hgb _⟩
                      · exact (((HKW8.out).trans hk16).setCell (.inr hbrw) _).setCell (.inr hbrw) _
          · obtain rfl : m = N - 1 := by omega
            have hRR : Hid (parseL s = .bad 3 (N - 1)) := Lib.hid (by
              rw [← hlp, List.drop_of_length_le (by rw [List.length_tail, HNN.out]; omega)]
              rfl)
            have HBx := Lib.hid (HB5.out.keep hk5r (by simpa using hne))
            have HKW := Lib.hid hk
            clear hlp hrw hbt hk hk5r hA1
            go_wp2_with fail
            refine (fail_any 3 ((N : Int) - 1) _).mono ?_
            rintro e w16 ⟨g, rfl, hg, hk16⟩
            have B16 := (HBx.out).keep hk16 (by simp)
            have c0 : w16.cell? ⟨br, 0, none⟩ = some (.slice none 0 0) := B16.cell 0
            have c1 : w16.cell? ⟨br, 1, none⟩ = some (.slice none 0 0) := B16.cell 1
            have f0 := B16.frozen 0
            have f1 := B16.frozen 1
            go_wp2
            refine bodyPost_ret (v := .tuple #[.agg #[.slice none 0 0, .slice none 0 0], .iface 136 (.pointer (some ⟨g, 0, none⟩))]) (by simp [results, Tryz.results26, go_sem, c0, c1]) rfl ⟨?_, ?_⟩
            · rw [hRR.out]
              have hgb : g ≠ br := hg.ne B16 (by decide)
              exact ⟨g, rfl, ((blk_num hg (by omega)).far hgb _).far hgb _⟩
            · exact (((HKW.out).trans hk16).setCell (.inr hbrw) _).setCell (.inr hbrw) _
end Go.Proofs.YtpagiajlefejcaaGreatDoor
namespace Go.Proofs.YtpagiajlefejcaaGreatDoor
open Go.RowKit
attribute [local go_sem] bs_size bs_extract bs_append bs_toList
set_option maxHeartbeats 1000000 in
set_option maxRecDepth 100000 in
theorem writeByte_any {w : World} {B b : Nat} {l : Bs} (h : Bld w B b l) (c : UInt8) (hlen : l.length ≤ 1000000000) (hBw : B ≤ w.heap.size) :
  Calls Tryz.prog 60 #[.pointer (some ⟨b, 0, none⟩), .int .u8 (c.toNat : Int)] w fun e w' => e = .returned .nilIface ∧ Bld w' B b (l ++ [c]) ∧ Below B w w' ∧ Lib.OthersKept 5 (some b) w w' := by
 obtain ⟨i0, hi, hz0, hz1, hz2⟩ := info_parts bld_info
 have hl := bytes_len l
 have HL := Lib.hid hl
 have HB := Lib.hid (copy_any B b (Lib.byteCells l) w h)
 clear hl h
 go_enter Tryz.func60, Tryz.ntmps60
 go_wp2_with fail
 refine HB.out.mono ?_
 rintro e w1 ⟨rfl, h1, hb1, ko1⟩
 obtain ⟨hB, v, hbk, hown, hne⟩ := h1
 have c1 : w1.cell? ⟨b, 1, none⟩ = some v := by rw [Lib.cell_of_heap hbk]; rfl
 have HBK := Lib.hid hbk
 have HO := Lib.hid hown
 have HB1 := Lib.hid hb1
 have KO1 := Lib.hid ko1
 have HS := Lib.hid (show B ≤ (w1.alloc (.cells #[.int .u8 (c.toNat : Int)] 5)).heap.size by have := hb1.size; simp; omega)
 have HM := Lib.hid (show (Lib.byteCells l).length + 1 ≤ maxLen ∧ ((Lib.byteCells l).length + 1) * 1 ≤ 140737488355328 by rw [HL.out]; simp only [maxLen]; omega)
 clear hbk hown hb1 ko1
 go_wp2_with (at_builtin; refine wpList_append_own _ rfl _ _ 124 rfl B 5 i0 (.int .u8 0) 1 1 Tryz.underlying124 hi hz0 hz1 hz2 rfl (by decide) _ _ _ rfl (HO.out.alloc _) ⟨w1.heap.size, 0, none⟩ 1 1 [.int .u8 (c.toNat : Int)] rfl rfl (World.news_of_block (heap_alloc_new _ _)) (by simp [Value.oneCell']) HM.out.1 HM.out.2 HS.out ?_)
 intro vv w2 hown' hgrow hnn
 obtain ⟨hlt, hb2⟩ := bld_after HBK.out (o := .cells #[.int .u8 (c.toNat : Int)] 5) hgrow hne
 have d1 : w2.cell? ⟨b, 1, none⟩ = some v := by rw [Lib.cell_of_heap hb2]; rfl
 have f1 : w2.frozen? ⟨b, 1, none⟩ = false := Lib.frozen_of_heap hb2 1
 obtain ⟨g, cap, rfl⟩ : ∃ g cap, vv = .slice (some ⟨g, 0, none⟩) ((Lib.byteCells l).length + 1) cap := by
  rcases hown'.2 with ⟨_, h0⟩ | ⟨g, cap, cur, hv, _⟩
  ·omega
  ·exact ⟨g, cap, hv⟩
 have e : Lib.byteCells (l ++ [c]) = Lib.byteCells l ++ [.int .u8 (c.toNat : Int)] := by simp [Lib.byteCells]
 have HO2 := Lib.hid hown'
 have HE := Lib.hid e
 have HG := Lib.hid hgrow
 have HB2 := Lib.hid hb2
 clear hown' e hgrow hb2 hnn
 go_wp2
 go_ret
 refine ⟨rfl, .inr ?_, ?_, ?_⟩
 ·exact Lib.BuilderAt.put (T := 126) (e := 5) hB HB2.out (bs' := Lib.byteCells (l ++ [c])) (by rw [HE.out]; simpa using HO2.out) (by decide)
 ·exact ((HB1.out.alloc (by have := HB1.out.size; omega) _).grown HG.out (by have := HB1.out.size; simp; omega) (fun k hk => (HO.out.lt k hk).1)).setCell (p := ⟨b, 1, none⟩) hB _
 ·exact ((KO1.out.alloc _).grown HG.out (bld_kind (HO.out.alloc _))).setCell ⟨b, 1, none⟩ rfl _
end Go.Proofs.YtpagiajlefejcaaGreatDoor
namespace Go.Proofs.YtpagiajlefejcaaGreatDoor
open Go.RowKit
attribute [local go_sem] bs_size bs_extract bs_append bs_toList
set_option maxRecDepth 100000 in
set_option maxHeartbeats 4000000 in
theorem print_no (t : Tb) (A B : Option Addr) (c d : Nat) (w : World) (hT : TabIn w t A B c d) (hr : rightB t = false) :
  Calls Tryz.prog 21 #[tAgg A t.cols.length c B t.rows.length d] w fun e w' => e = .returned (.tuple #[.string (bs []), .iface 34 (.int .i64 1)]) ∧ Keeps [] w w' := by
 have h := fun W (q : Keeps [] w W) => (hT.quiet q).right
 rw [hr] at h
 have H := Lib.hid h
 clear h hr hT
 show Calls _ _ #[.agg #[.slice A t.cols.length c, .slice B t.rows.length d]] w _
 go_enter Tryz.func21, Tryz.ntmps21
 go_wp2_with (go_at_call 12; refine (H.out _ ((Keeps.refl _ _).alloc _)).mono ?_; rintro e w5 ⟨rfl, hk5⟩)
 go_ret2
 exact ⟨rfl, ((Keeps.refl _ _).alloc _).trans hk5⟩
set_option maxRecDepth 100000 in
set_option maxHeartbeats 8000000 in
theorem print_yes (t : Tb) (A B : Option Addr) (c d : Nat) (w : World) (hT : TabIn w t A B c d) (hE : TEnv w) (hr : rightB t = true) :
  Calls Tryz.prog 21 #[tAgg A t.cols.length c B t.rows.length d] w fun e w' => e = .returned (.tuple #[.string (bs (printL t)), .nilIface]) ∧ Keeps [] w w' := by
 obtain ⟨r1, r2, r3, r4⟩ := rightB_of hr
 have h := fun W (q : Keeps [] w W) => (hT.quiet q).right
 rw [hr] at h
 have H := Lib.hid h
 have HT := Lib.hid hT
 have HE := Lib.hid hE
 have HR := Lib.hid hr
 have R1 := Lib.hid r1
 have R4 := Lib.hid r4
 clear h hr hT hE r1 r4
 show Calls _ _ #[.agg #[.slice A t.cols.length c, .slice B t.rows.length d]] w _
 go_enter Tryz.func21, Tryz.ntmps21
 go_wp2_with (go_at_call 12; refine (H.out _ ((Keeps.refl _ _).alloc _)).mono ?_; rintro e w5 ⟨rfl, hk5⟩; have q0 := hk5.cell_of (p := ⟨w.heap.size, 0, none⟩) (v := .slice A t.cols.length c) (by simp) (by simp); have q1 := hk5.cell_of (p := ⟨w.heap.size, 1, none⟩) (v := .slice B t.rows.length d) (by simp) (by simp); have hlt5 := World.block_lt_of_cell? _ _ q0)
 obtain ⟨bt, hbt⟩ : ∃ bt, w.heap.size = bt := ⟨_, rfl⟩
 have HK5 := Lib.hid (((Keeps.refl [] w).alloc (.cells #[.slice A t.cols.length c, .slice B t.rows.length d] 25)).trans hk5)
 rw [hbt] at q0 q1 hlt5 ⊢
 have Q1 := Lib.hid q1
 have hbld := bld_new w5
 obtain ⟨b, hb⟩ : ∃ b, w5.heap.size = b := ⟨_, rfl⟩
 have hk6 : Keeps [] w5 (w5.alloc (.cells #[.pointer none, .slice none 0 0] 126)) := (Keeps.refl [] w5).alloc _
 have hbs : b < (w5.alloc (.cells #[.pointer none, .slice none 0 0] 126)).heap.size := by simp; omega
 rw [hb] at hbld ⊢
 generalize w5.alloc (.cells #[.pointer none, .slice none 0 0] 126) = W6 at hbld hk6 hbs ⊢
 have HB := Lib.hid hb
 have HBLD := Lib.hid hbld
 have HK6 := Lib.hid hk6
 clear hk5 hbt q0 q1 hbld hb hk6
 go_loopw [18] (fun i wr => ∃ n : Nat, n ≤ t.cols.length ∧ i = .int .i64 n ∧ Bld wr b b (colsT t.cols n) ∧ Keeps [] w5 wr ∧ b < wr.heap.size) (fun i _ => t.cols.length - (intOf i).toNat)
 case atStart => exact ⟨0, Nat.zero_le _, rfl, HBLD.out, HK6.out, hbs⟩
 case round =>
  clear HBLD HK6 hbs
  obtain ⟨n, hn, rfl, hbl, hk, hbs⟩ := hrel
  have hcl := colsT_len R1.out n hn
  by_cases hlt : n < t.cols.length
  ·obtain ⟨ba, oa, rfl, _, hba, hcs⟩ := ((HT.out.cols.keep HK5.out).keep hk).open' (by omega) (by omega)
   have d1 := hcs (n * 2) _ (csCells_at t.cols n hlt).1
   have d2 := hcs (n * 2 + 1) _ (csCells_at t.cols n hlt).2
   rw [← Nat.add_assoc] at d2
   obtain ⟨ok1, ok2⟩ := okCol_of R1.out hlt
   have hnx := colsT_succ t.cols n hlt
   have hnl := nameB_len ok1
   generalize t.cols[n] = x at *
   obtain ⟨nm, kd⟩ := x
   simp only at d1 d2 ok2 hnx hnl
   have HNX := Lib.hid hnx
   have HBL := Lib.hid hbl
   have HKK := Lib.hid hk
   clear hcs ok1 hnx hbl hk
   obtain ⟨j, hj, rfl⟩ : ∃ j : Nat, j < 3 ∧ kd = (j : Int) := by
    rcases ok2 with h | h
    ·exact ⟨1, by omega, h⟩
    ·exact ⟨2, by omega, h⟩
   have hj3 : (j : Int) < 3 := by omega
   have hkw := kindW_len j
   have kk := fun W (q : Keeps [] w W) => (HE.out.quiet q).kinds j hj
   rw [Int.toNat_natCast] at HNX
   generalize kindW j = kw at *
   have KK := Lib.hid kk
   have hws := fun (W W0 : World) (l : Bs) (h : Bld W b b l) (hl : l.length ≤ 1000) (hW : b ≤ W.heap.size) => writeString_any h (nm ++ [58] ++ kw) (by omega) (by simp; omega) hW
   have e58 : bs (nm ++ [58] ++ kw) = bs nm ++ ⟨#[58]⟩ ++ bs kw := by rw [← bs_append, ← bs_append]; rfl
   rw [e58] at hws
   have HWS := Lib.hid hws
   have hA : Blk (wr.alloc (.cells #[.string (bs nm), .int .i64 (j : Int)] 109)) wr.heap.size 109 #[.string (bs nm), .int .i64 (j : Int)] := Blk.new wr _ _
   have hKA : Keeps [] w5 (wr.alloc (.cells #[.string (bs nm), .int .i64 (j : Int)] 109)) := HKK.out.alloc _
   have HA2 := Lib.hid hA
   have HKA := Lib.hid hKA
   have HBA := Lib.hid (HBL.out.alloc (.cells #[.string (bs nm), .int .i64 (j : Int)] 109))
   have hnb : wr.heap.size ≠ b := by omega
   clear hws e58 kk hA hKA ok2
   have hl1 : (9223372036854775807 < nm.length + 1) = False := eq_false (by omega)
   have hl2 : (9223372036854775807 < nm.length + 1 + kw.length) = False := eq_false (by omega)
   by_cases hn0 : (0 : Int) < (n : Int)
   ·have hx2 := HNX.out
    rw [if_neg (by omega)] at hx2
    have HX2 := Lib.hid hx2
    have hwb := writeByte_any HBA.out 32 (by omega) (by simp; omega)
    have HWB := Lib.hid hwb
    clear hx2 hwb
    go_wp2_with fail
    refine HWB.out.mono ?_
    rintro e w6 ⟨rfl, h6, hb6, ko6⟩
    have hk6 : Keeps [] w5 w6 := HKA.out.under (HB.out ▸ hb6)
    have hs6 : b ≤ w6.heap.size := by have := hb6.size; simp at this; omega
    have HA6 := Lib.hid (HA2.out.beside ko6 hnb (by decide))
    have H6 := Lib.hid h6
    have HK6 := Lib.hid hk6
    have HS0 := Lib.hid (show (_ ∧ _ ∧ _ : Prop) from ⟨(HA6.out.cell 0), (HA6.out.cell 1), KK.out _ (HK5.out.trans hk6)⟩)
    clear h6 hb6 ko6 hk6
    go_wp2_with fail
    go_region_held3 (fun w' => w'.cell? ⟨wr.heap.size, 0, none⟩ = some (.string (bs nm)) ∧ w'.cell? ⟨wr.heap.size, 1, none⟩ = some (.int .i64 (j : Int)) ∧ w'.cell? ⟨1, j, none⟩ = some (.string (bs kw))) (first | exact HS0.out | exact ⟨(HA6.out.beside ko7 hnb (by decide)).cell 0, (HA6.out.beside ko7 hnb (by decide)).cell 1, KK.out _ (HK5.out.trans (HK6.out.drew.under (HB.out ▸ hb7)))⟩ | go_keep) (first | (go_at_call 61; refine (HWS.out _ wr _ (by exact H6.out.drew) (by rw [List.length_append]; simp only [List.length_cons, List.length_nil]; omega) (by exact hs6)).mono ?_; rintro e w7 ⟨rfl, h7, hb7, ko7⟩))
    have HK7 := Lib.hid (HK6.out.drew.under (HB.out ▸ hb7))
    have H7 := Lib.hid h7
    have HS7 := Lib.hid (show b < w7.heap.size from (by have := hb7.size; have := HS0.out.1; have h9 := World.block_lt_of_cell? _ _ this; have h10 : w6.heap.size ≤ w7.heap.size := hb7.size; simp only at h9; omega))
    clear h7 hb7 ko7
    go_wp2
    go_roundw
    case rel => exact ⟨n + 1, by omega, by go_num, by rw [HX2.out]; exact H7.out, HK7.out, HS7.out⟩
    case measure => simp [intOf]; omega
   ·have hx2 := HNX.out
    rw [if_pos (by omega), List.append_nil] at hx2
    have HX2 := Lib.hid hx2
    have HS0 := Lib.hid (show (_ ∧ _ ∧ _ : Prop) from ⟨(HA2.out.cell 0), (HA2.out.cell 1), KK.out _ (HK5.out.trans HKA.out)⟩)
    clear hx2
    go_wp2_with fail
    go_region_held3 (fun w' => w'.cell? ⟨wr.heap.size, 0, none⟩ = some (.string (bs nm)) ∧ w'.cell? ⟨wr.heap.size, 1, none⟩ = some (.int .i64 (j : Int)) ∧ w'.cell? ⟨1, j, none⟩ = some (.string (bs kw))) (first | exact HS0.out | exact ⟨(HA2.out.beside ko7 hnb (by decide)).cell 0, (HA2.out.beside ko7 hnb (by decide)).cell 1, KK.out _ (HK5.out.trans (HKA.out.drew.under (HB.out ▸ hb7)))⟩ | go_keep) (first | (go_at_call 61; refine (HWS.out _ wr _ (by exact HBA.out.drew) (by omega) (by simp; omega)).mono ?_; rintro e w7 ⟨rfl, h7, hb7, ko7⟩))
    have HK7 := Lib.hid (HKA.out.drew.under (HB.out ▸ hb7))
    have H7 := Lib.hid h7
    have HS7 := Lib.hid (show b < w7.heap.size from (by have h10 : (wr.alloc (.cells #[.string (bs nm), .int .i64 (j : Int)] 109)).heap.size ≤ w7.heap.size := hb7.size; simp at h10; omega))
    clear h7 hb7 ko7
    go_wp2
    go_roundw
    case rel => exact ⟨n + 1, by omega, by go_num, by rw [HX2.out]; exact H7.out, HK7.out, HS7.out⟩
    case measure => simp [intOf]; omega
  ·obtain rfl : n = t.cols.length := by omega
   have HBL := Lib.hid hbl
   have hwb := writeByte_any HBL.out 10 (by omega) (by omega)
   have HWB := Lib.hid hwb
   have hbtr : bt < wr.heap.size := by have := World.block_lt_of_cell? _ _ Q1.out; have := hk.size; simp only at *; omega
   have q1 := hk.cell_of Q1.out (by simp)
   clear hbl hwb
   go_wp2_with fail
   refine HWB.out.mono ?_
   rintro e w6 ⟨rfl, h6, hb6, ko6⟩
   have hk6 : Keeps [] w5 w6 := hk.under (HB.out ▸ hb6)
   have hs6 : b < w6.heap.size := by have := hb6.size; omega
   have q1 := hk6.cell_of Q1.out (by simp)
   obtain ⟨T0, hT0⟩ : ∃ T0, colsT t.cols t.cols.length ++ [10] = T0 := ⟨_, rfl⟩
   have hT0l : T0.length ≤ 100 := by rw [← hT0, List.length_append]; simp only [List.length_cons, List.length_nil]; omega
   rw [hT0] at h6
   have HT0 := Lib.hid hT0
   have H6 := Lib.hid h6
   have HK6 := Lib.hid hk6
   clear h6 hb6 ko6 hk6 hT0
   go_wp2
   go_loopw [40] (fun i wr => ∃ n : Nat, n ≤ t.rows.length ∧ i = .int .i64 n ∧ Bld wr b b (T0 ++ rowsT t.rows n) ∧ Keeps [] w5 wr ∧ b < wr.heap.size) (fun i _ => t.rows.length - (intOf i).toNat)
   case atStart => exact ⟨0, Nat.zero_le _, rfl, by rw [show rowsT t.rows 0 = [] from rfl, List.append_nil]; exact H6.out, HK6.out, hs6⟩
   case round =>
    clear H6 HK6 hs6 q1
    obtain ⟨n, hn, rfl, hbl, hk2, hbs2⟩ := hrel
    have hrl := rowsT_len HR.out n hn
    by_cases hlt : n < t.rows.length
    ·obtain ⟨us, hul, hu1, hu2⟩ := HT.out.rows.keep HK5.out
     obtain ⟨bb, ob, rfl, _, hbb, hcs⟩ := (hu1.keep hk2).open' (by omega) (by omega)
     have d1 := hcs n _ (List.getElem?_eq_getElem (by omega))
     obtain ⟨Ar, cr, hue, hcr, hRr⟩ := hu2 n (by omega) hlt
     rw [hue] at d1
     have hrb := R4.out _ (List.getElem_mem hlt)
     have hnx := rowsT_succ t.rows n hlt
     generalize hr : t.rows[n] = r at *
     have hr6 := (rowB_of hrb).1
     have hrv := (rowB_of hrb).2
     have hrtl := rowT_len hrb
     obtain ⟨T1, hT1⟩ : ∃ T1, T0 ++ rowsT t.rows n = T1 := ⟨_, rfl⟩
     have hT1l : T1.length ≤ 10000 := by rw [← hT1, List.length_append]; omega
     rw [hT1] at hbl
     have HT1 := Lib.hid hT1
     have HBL2 := Lib.hid hbl
     have HNX := Lib.hid hnx
     have HRV := Lib.hid hrv
     have HRTL := Lib.hid hrtl
     have HR6 := Lib.hid hr6
     have hrle : r.length ≤ 6 := by omega
     obtain ⟨wo, hwo⟩ : ∃ wo : World, wo = wr := ⟨_, rfl⟩
     subst hwo
     have HKO := Lib.hid hk2
     have HRr5 := Lib.hid hRr
     clear hcs hu1 hu2 hue hul hrb hr hT1 hbl hnx hrv hrtl hr6 hrl hk2 hRr
     go_wp2
     go_loopw [46] (fun i wr => ∃ m : Nat, m ≤ r.length ∧ i = .int .i64 m ∧ Bld wr b b (T1 ++ rowT r m) ∧ Keeps [] w5 wr ∧ b < wr.heap.size) (fun i _ => r.length - (intOf i).toNat)
     case atStart => exact ⟨0, Nat.zero_le _, rfl, by rw [show rowT r 0 = [] from rfl, List.append_nil]; exact HBL2.out, HKO.out, hbs2⟩
     case round =>
      clear HBL2 HKO hbs2
      obtain ⟨m, hm, rfl, hbl, hk2, hbs2⟩ := hrel
      have hRr := HRr5.out.keep hk2
      have hrtl := HRTL.out m hm
      by_cases hlt2 : m < r.length
      ·obtain ⟨b2, o2, rfl, _, hb2, hcs2⟩ := hRr.open' (by omega) (by omega)
       have e1 := hcs2 (m * 3) _ (vsCells_at r m hlt2).1
       have e2 := hcs2 (m * 3 + 1) _ (vsCells_at r m hlt2).2.1
       have e3 := hcs2 (m * 3 + 2) _ (vsCells_at r m hlt2).2.2
       rw [← Nat.add_assoc] at e2 e3
       obtain ⟨v1, v2, v3⟩ := rv_len (HRV.out m hlt2)
       have hnx := rowT_succ r m hlt2
       have hva := fun W q => value_any r[m] v2 (by omega) W (HE.out.quiet q)
       generalize r[m] = x at *
       obtain ⟨xk, xn, xs⟩ := x
       simp only at e1 e2 e3
       generalize hvt : valueL ⟨xk, xn, xs⟩ = vt at *
       have hws := fun (W : World) (l : Bs) (h : Bld W b b l) (hl : l.length ≤ 20000) (hW : b ≤ W.heap.size) => writeString_any h vt (by omega) (by omega) hW
       have HWS := Lib.hid hws
       have HVA := Lib.hid hva
       have HNX2 := Lib.hid hnx
       have hA : Blk (wr.alloc (.cells #[.int .i64 xk, .int .i64 xn, .string (bs xs)] 27)) wr.heap.size 27 #[.int .i64 xk, .int .i64 xn, .string (bs xs)] := Blk.new wr _ _
       have hKA : Keeps [] w5 (wr.alloc (.cells #[.int .i64 xk, .int .i64 xn, .string (bs xs)] 27)) := hk2.alloc _
       have HA2 := Lib.hid hA
       have HKA := Lib.hid hKA
       have HBA := Lib.hid (hbl.alloc (.cells #[.int .i64 xk, .int .i64 xn, .string (bs xs)] 27))
       have hnb : wr.heap.size ≠ b := by omega
       clear hcs2 hws hva hnx hA hKA hbl hk2 hRr hvt
       by_cases hm0 : (0 : Int) < (m : Int)
       ·have hx2 := HNX2.out
        rw [if_neg (by omega)] at hx2
        have HX2 := Lib.hid hx2
        have hwb := writeByte_any HBA.out 32 (by rw [List.length_append]; omega) (by simp; omega)
        have HWB := Lib.hid hwb
        clear hx2 hwb
        go_wp2_with fail
        refine HWB.out.mono ?_
        rintro e w6 ⟨rfl, h6, hb6, ko6⟩
        have hk6 : Keeps [] w5 w6 := HKA.out.under (HB.out ▸ hb6)
        have hs6 : b ≤ w6.heap.size := by have := hb6.size; simp at this; omega
        have HA6 := HA2.out.beside ko6 hnb (by decide)
        have s1 : w6.cell? ⟨wr.heap.size, 0, none⟩ = some (.int .i64 xk) := HA6.cell 0
        have s2 : w6.cell? ⟨wr.heap.size, 1, none⟩ = some (.int .i64 xn) := HA6.cell 1
        have s3 : w6.cell? ⟨wr.heap.size, 2, none⟩ = some (.string (bs xs)) := HA6.cell 2
        have H6 := Lib.hid h6
        have HK6 := Lib.hid hk6
        clear h6 hb6 ko6 hk6 HA6
        go_wp2_with fail
        refine (HVA.out _ (HK5.out.trans HK6.out)).mono ?_
        rintro e w7 ⟨rfl, hk7⟩
        have H7 := Lib.hid (H6.out.keep hk7)
        have HK7 := Lib.hid (HK6.out.trans hk7)
        have hs7 : b ≤ w7.heap.size := by have := hk7.size; omega
        clear hk7 s1 s2 s3
        go_wp2_with fail
        refine (HWS.out _ _ H7.out (by rw [List.length_append, List.length_append]; simp only [List.length_cons, List.length_nil]; omega) hs7).mono ?_
        rintro e w8 ⟨rfl, h8, hb8, ko8⟩
        have HK8 := Lib.hid (HK7.out.under (HB.out ▸ hb8))
        have H8 := Lib.hid h8
        have hs8 : b < w8.heap.size := by have := hb8.size; have := HK7.out.size; have := HB.out; have h9 := H7.out.lt; omega
        clear h8 hb8 ko8
        go_wp2
        go_roundw
        case rel => exact ⟨m + 1, by omega, by go_num, by rw [HX2.out, ← List.append_assoc, ← List.append_assoc]; exact H8.out, HK8.out, hs8⟩
        case measure => simp [intOf]; omega
       ·have hx2 := HNX2.out
        rw [if_pos (by omega), List.append_nil] at hx2
        have HX2 := Lib.hid hx2
        clear hx2
        have hbs3 : b < wr.heap.size + 1 := by omega
        go_wp2_with fail
        refine (HVA.out _ (HK5.out.trans HKA.out)).mono ?_
        rintro e w7 ⟨rfl, hk7⟩
        have H7 := Lib.hid (HBA.out.keep hk7)
        have HK7 := Lib.hid (HKA.out.trans hk7)
        have hs7 : b ≤ w7.heap.size := by have := hk7.size; simp at this; omega
        clear hk7
        go_wp2_with fail
        refine (HWS.out _ _ H7.out (by rw [List.length_append]; omega) hs7).mono ?_
        rintro e w8 ⟨rfl, h8, hb8, ko8⟩
        have HK8 := Lib.hid (HK7.out.under (HB.out ▸ hb8))
        have H8 := Lib.hid h8
        have hs8 : b < w8.heap.size := by have := hb8.size; have h9 := H7.out.lt; omega
        clear h8 hb8 ko8
        go_wp2
        go_roundw
        case rel => exact ⟨m + 1, by omega, by go_num, by rw [HX2.out, ← List.append_assoc]; exact H8.out, HK8.out, hs8⟩
        case measure => simp [intOf]; omega
      ·obtain rfl : m = r.length := by omega
       have hwb := writeByte_any hbl 10 (by rw [List.length_append]; omega) (by omega)
       have HWB := Lib.hid hwb
       have HK2 := Lib.hid hk2
       clear hwb hbl hk2 hRr
       go_wp2_with fail
       refine HWB.out.mono ?_
       rintro e w6 ⟨rfl, h6, hb6, ko6⟩
       have HK6 := Lib.hid (HK2.out.under (HB.out ▸ hb6))
       have H6 := Lib.hid h6
       have hs6 : b < w6.heap.size := by have := hb6.size; omega
       clear h6 hb6 ko6
       go_wp2
       go_roundw
       case rel => exact ⟨n + 1, by omega, by go_num, by rw [HNX.out, ← List.append_assoc, HT1.out, ← List.append_assoc]; exact H6.out, HK6.out, hs6⟩
       case measure => simp [intOf]; omega
    ·obtain rfl : n = t.rows.length := by omega
     have HBL2 := Lib.hid hbl
     have HPL : Hid (T0 ++ rowsT t.rows t.rows.length = printL t) := Lib.hid (by rw [← HT0.out]; rfl)
     have hst := Tryz.Builder_String_any b b (T0 ++ rowsT t.rows t.rows.length) wr HBL2.out (by omega)
     have HST := Lib.hid hst
     clear hbl hst
     go_wp2_with fail
     refine HST.out.mono ?_
     rintro e w7 ⟨rfl, hb7⟩
     go_wp2
     go_ret2
     exact ⟨by rw [HPL.out]; rfl, HK5.out.trans (hk2.under (HB.out ▸ hb7))⟩
end Go.Proofs.YtpagiajlefejcaaGreatDoor
