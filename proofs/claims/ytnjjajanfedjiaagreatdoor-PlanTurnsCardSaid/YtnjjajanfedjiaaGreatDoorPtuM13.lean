/- The parser's flow. The cutter's letter, digit, run and next. -/
import Derived.Test.YtnjjajanfedjiaaGreatDoorPtuM12
import Derived.Deep.CutBlock
import Derived.Test.YtnjjajanfedjiaaGreatDoorPtuM7
import Derived.Lib.IndexLaws
set_option linter.unusedSimpArgs false
set_option linter.unusedVariables false
namespace Go.Proofs.YtnjjajanfedjiaaGreatDoor
open Go.RowKit Go.BigFrame
attribute [local go_sem] bs_size bs_extract bs_append bs_toList
theorem iinf : (Tryz.prog.info? 63).map (fun i => (i.zero, i.size, i.bytes)) = some (some (.agg #[.int .i64 0, .string ⟨#[]⟩, .slice none 0 0]), 3, 48) := by kernel_rfl
theorem jinf : (Tryz.prog.info? 45).map (fun i => (i.zero, i.size, i.bytes)) = some (some (.agg #[.int .i64 0, .int .i64 0, .slice none 0 0, .slice none 0 0, .slice none 0 0, .string ⟨#[]⟩, .string ⟨#[]⟩, .int .i64 0, .int .i64 0, .string ⟨#[]⟩, .string ⟨#[]⟩, .int .i64 0, .int .i64 0, .string ⟨#[]⟩, .int .i64 0]), 15, 208) := by kernel_rfl
theorem pinf : (Tryz.prog.info? 83).map (fun i => (i.zero, i.size, i.bytes)) = some (some (.agg #[.int .i64 0, .string ⟨#[]⟩, .string ⟨#[]⟩]), 3, 40) := by kernel_rfl
set_option maxRecDepth 100000 in
set_option maxHeartbeats 8000000 in
theorem flow_any {l : List Tk} {b lo : Nat} (w : World) (hE : FB w lo) (hlo : lo ≤ b) (h : Ps w b l) (hll : l.length ≤ 1000000) :
  Calls Tryz.prog 36 #[.pointer (some ⟨b, 0, none⟩)] w fun e w' => FlowOut (flowP l) b w.heap.size e w' ∧ Keeps [b] w w' := by
 obtain ⟨i0, hi, hz0, hz1, hz2⟩ := info_parts iinf
 obtain ⟨i1, hj, hy0, hy1, hy2⟩ := info_parts jinf
 obtain ⟨i2, hp, hx0, hx1, hx2⟩ := info_parts pinf
 obtain ⟨R, hR⟩ : ∃ R, flowP l = R := ⟨_, rfl⟩
 rw [hR]
 rw [flowP_eq] at hR
 have HR := Lib.hid hR
 have HLL := Lib.hid hll
 have HE := Lib.hid hE
 have HP0 := Lib.hid h
 have hmf : ∀ (fn : Fn) (first cap : Array Value) (w : World), (Instr.makeFunc fn first cap).run Tryz.prog w = .ok (.func fn first cap) w := fun _ _ _ _ => rfl
 clear hR hll hE h
 go_enter Tryz.func36, Tryz.ntmps36
 go_upto_block 0 with (fail)
 obtain ⟨W1, hW1⟩ : ∃ x, w.alloc (.cells #[.pointer (some ⟨b, 0, none⟩)] 92) = x := ⟨_, rfl⟩
 have z1 : W1.heap.size = w.heap.size + 1 := by rw [← hW1]; exact fsz _ _
 obtain ⟨W2, hW2⟩ : ∃ x, W1.alloc (.cells #[.slice none 0 0, .slice none 0 0, .slice none 0 0] 26) = x := ⟨_, rfl⟩
 have z2 : W2.heap.size = w.heap.size + 1 + 1 := by rw [← hW2, fsz, z1]
 obtain ⟨y0, hW3⟩ : ∃ x, W2.alloc (.cells #[.slice none 0 0, .slice none 0 0, .slice none 0 0] 26) = x := ⟨_, rfl⟩
 have k1 : Keeps [] w W1 := by rw [← hW1]; exact (Keeps.refl _ _).alloc _
 have k2 : Keeps [] W1 W2 := by rw [← hW2]; exact (Keeps.refl _ _).alloc _
 have k3 : Keeps [] W2 y0 := by rw [← hW3]; exact (Keeps.refl _ _).alloc _
 have b1 : Blk W1 w.heap.size 92 #[.pointer (some ⟨b, 0, none⟩)] := by rw [← hW1]; exact Blk.new _ _ _
 have b2 : Blk W2 (w.heap.size + 1) 26 #[.slice none 0 0, .slice none 0 0, .slice none 0 0] := by rw [← hW2, ← z1]; exact Blk.new _ _ _
 have b3 : Blk y0 (w.heap.size + 1 + 1) 26 #[.slice none 0 0, .slice none 0 0, .slice none 0 0] := by rw [← hW3, ← z2]; exact Blk.new _ _ _
 rw [hW1, hW2, hW3]
 obtain ⟨fb, hfb⟩ : ∃ x, w.heap.size + 1 + 1 = x := ⟨_, rfl⟩
 rw [hfb] at b3 ⊢
 obtain ⟨rb, hrb⟩ : ∃ x, w.heap.size + 1 = x := ⟨_, rfl⟩
 rw [hrb] at b2 ⊢
 have HS : Hid (FlSt y0 w.heap.size w.heap.size rb fb b (.slice none 0 0) (.slice none 0 0) (.slice none 0 0) [] [] []) := Lib.hid
  ⟨(b1.keep k2 (by simp)).keep k3 (by simp), b2.keep k3 (by simp), b3, by omega, by omega, LstIs.nil, LstIs.nil, LstIs.nil⟩
 have HK : Hid (Keeps [b] w y0) := Lib.hid (k1.trans (k2.trans k3)).of_nil
 have HP : Hid (Ps y0 b l) := Lib.hid (((HP0.out.keep k1).keep k2).keep k3)
 have HRB : Hid (w.heap.size ≤ rb) := Lib.hid (by omega)
 clear hfb hrb b1 b2 b3 k1 k2 k3 z1 z2 hW1 hW2 hW3 HP0
 go_upto_block 0 with (fail)
 go_cut [] (fun wx => ∃ (v0 : Value) (ins : List In) (q : List Tk), Hid (flow1 (ins, q) = R) ∧ Hid (q.length ≤ l.length) ∧ Hid (FlSt wx w.heap.size w.heap.size rb fb b v0 (.slice none 0 0) (.slice none 0 0) ins [] []) ∧ Hid (Ps wx b q) ∧ Hid (Keeps [b] w wx))
 case first =>
  go_wp2_with fail
  go_loopw [] (fun wx => ∃ (v0 : Value) (ins : List In) (q : List Tk) (n : Nat), Hid (manyP [105, 110] inputP n q ins >>= flow1 = R) ∧ q.length ≤ n ∧ Hid (q.length ≤ l.length) ∧ ins.length ≤ 16 ∧ Hid (FlSt wx w.heap.size w.heap.size rb fb b v0 (.slice none 0 0) (.slice none 0 0) ins [] []) ∧ Hid (Ps wx b q) ∧ Hid (Keeps [b] w wx)) (fun wx => leftT b wx)
  case atStart => exact ⟨_, [], l, l.length, HR, Nat.le_refl _, Lib.hid (Nat.le_refl _), by simp, HS, HP, HK⟩
  case round =>
   clear HS HP HK HR
   obtain ⟨v0, ins, q, n, HR, hqn, HQL, hcnt, HS, HP, HK⟩ := hrel
   obtain ⟨y, rfl⟩ : ∃ y : World, y = wr := ⟨_, rfl⟩
   have hq1 := HP.out.endT.pos
   have hn0 : 0 < n := by omega
   have HN0 := Lib.hid hn0
   have HQN := Lib.hid hqn
   have HQ1 := Lib.hid hq1
   have p0 : y.cell? ⟨w.heap.size, 0, none⟩ = some (.pointer (some ⟨b, 0, none⟩)) := HS.out.pbk.cell 0
   have lp := HS.out.pbk.lt
   have lf := HS.out.fbk.lt
   obtain ⟨us, hul, how, hel⟩ := HS.out.i0
   obtain ⟨A, cv, rfl, -⟩ := own_form how
   have HOW := Lib.hid how
   have HUL := Lib.hid hul
   have HEL := Lib.hid hel
   have HKY := HK
   have f0 : y.cell? ⟨fb, 0, none⟩ = some (.slice A ins.length cv) := HS.out.fbk.cell 0
   have HM := Lib.hid HP.out.left
   have HT := see_any [105, 110] y HP.out
   clear how hul hel hn0 hqn hq1
   cases hs : seeP [105, 110] q with
   | false =>
    rw [hs] at HT
    have HT1 := Lib.hid HT
    have HRR : Hid (flow1 (ins, q) = R) := Lib.hid (by rw [← HR.out, many_no hs]; rfl)
    clear HT hs
    go_wp2_with fail
    refine HT1.out.mono ?_
    rintro ev w3 ⟨rfl, rfl⟩
    go_wp2
    go_meet
    exact ⟨_, ins, q, HRR, HQL, HS, HP, HK⟩
   | true =>
    rw [hs] at HT
    have HT1 := Lib.hid HT
    have HSE := Lib.hid hs
    clear HT hs
    by_cases h16 : ins.length = 16
    ·have HX : Hid (R = .error (4, (hdT q).at_)) := Lib.hid (by rw [← HR.out, many_full HSE.out HN0.out h16]; rfl)
     have HF := Lib.hid (full_yes ins.length HS.out.pbk HP.out h16)
     clear h16
     go_wp2_with fail
     refine HT1.out.mono ?_
     rintro ev w3 ⟨rfl, rfl⟩
     go_wp2_with fail
     refine HF.out.mono ?_
     rintro ev w9 ⟨⟨gi, rfl, hb⟩, hk9⟩
     exact ⟨rfl, by rw [HX.out]; exact ⟨gi, rfl, hb⟩, HK.out.trans hk9.of_nil⟩
    have HF := Lib.hid (full_no ins.length HS.out.pbk HP.out h16)
    have fS : y.cell? ⟨fb, 0, none⟩ = some (.slice A ins.length cv) ∧ y.frozen? ⟨fb, 0, none⟩ = false := ⟨f0, HS.out.fbk.frozen 0⟩
    have hbd := Lib.hid (show ins.length + 1 ≤ maxLen ∧ (ins.length + 1) * 48 ≤ 140737488355328 by simp only [maxLen]; omega)
    have HNE : Hid (fb ∉ [b]) := Lib.hid (by have := HS.out.fbk.ty.ne HP.out.ty (by decide); simpa using this)
    rcases hS : inputP q with x | ⟨x, r⟩
    ·have HX : Hid (R = .error x) := Lib.hid (by rw [← HR.out, many_err HSE.out HN0.out h16 hS]; rfl)
     have HC : Hid (∀ W, Keeps [] y W → Calls Tryz.prog 75 #[.pointer (some ⟨b, 0, none⟩)] W fun e w' => Thrown x e w' ∧ Keeps [b] W w') := Lib.hid (fun W z => by
      have h := input_any W (HP.out.keep z) (Nat.le_trans HQL.out HLL.out)
      rw [hS] at h
      exact h)
     clear hS h16
     go_wp2_with fail
     refine HT1.out.mono ?_
     rintro ev w3 ⟨rfl, rfl⟩
     go_wp2_with fail
     refine HF.out.mono ?_
     rintro ev w4 ⟨rfl, rfl⟩
     go_wp2_with fail
     go_region_law (first | (refine step_append_lies _ (by rfl) _ _ _ (by rfl) w.heap.size 63 i0 _ 3 48 Tryz.underlying22 hi hz0 hz1 hz2 rfl (by decide) (.slice A ins.length cv) ins.length us.flatten (by rfl) ((own_far' HOW.out hk6.undrew (fun z hz => ⟨94, by rw [List.mem_singleton.1 hz]; exact HP.out.ty, by decide⟩)).alloc _) ⟨w6.heap.size, 0, none⟩ 1 1 ([.int .i64 0, .string (bs []), .slice none 0 0]) (by rfl) rfl (World.news_of_block (heap_alloc_new _ _)) (by simp [Value.oneCell']) (by decide) hbd.out.1 hbd.out.2 (by have := HKY.out.size; have := hk6.size; have h9 : y.drew.heap.size = y.heap.size := rfl; simp; omega) _ rfl ?_; intro gw cap w7 hown7 hgrow7 hat7 hlt7; obtain ⟨fS7, fZ7⟩ := fld_grown hgrow7 (fld_alloc ⟨fS6, fZ6⟩ _) (fun e => (own_ty HOW.out fb e).ne HS.out.fbk.ty (by decide) rfl)) | (go_simp; go_at_call 75; refine (HC.out _ (Keeps.refl [] y).drew).mono ?_; rintro e w6 ⟨⟨gi, rfl, hb⟩, hk6⟩; obtain ⟨fS6, fZ6⟩ := fld_keeps hk6 fS HNE.out; have gl6 : fb < w6.heap.size := World.block_lt_of_cell? w6 ⟨fb, 0, none⟩ fS6; dsimp only; (go_loud (refine fake_way ‹∀ (a : Act) (w : World), wpAny _ _ _ _ _ _ a w → _› (some 17) (.agg #[.int .i64 0, .string (bs []), .slice none 0 0]) ⟨rfl, by rw [HX.out]; exact ⟨gi, rfl, hb⟩, HK.out.trans hk6.undrew⟩ (fun hF => ?_)))))
     all_goals exact hF.out.elim
    ·have HRR : Hid (manyP [105, 110] inputP (n - 1) r (ins ++ [x]) >>= flow1 = R) := Lib.hid (by rw [← HR.out, many_ok HSE.out HN0.out h16 hS])
     have HC : Hid (∀ W, Keeps [] y W → Calls Tryz.prog 75 #[.pointer (some ⟨b, 0, none⟩)] W fun e w' => (∃ v, e = .returned (.agg #[.int .i64 x.at_, .string (bs x.name), v]) ∧ w'.ownsRow y.heap.size 61 2 v x.cols.length (csCells x.cols) ∧ Ps w' b r) ∧ Keeps [b] W w') := Lib.hid (fun W z => by
      have h := input_any W (HP.out.keep z) (Nat.le_trans HQL.out HLL.out)
      rw [hS] at h
      refine h.mono (fun e w' h => ⟨?_, h.2⟩)
      have h2 := h.1
      simp only [InOut] at h2
      obtain ⟨v, h3, h4, h5⟩ := h2
      exact ⟨v, h3, own_low h4 z.size, h5⟩)
     have HLE := Lib.hid (inputP_le HQ1.out hS)
     have HL1 : Hid ((ins ++ [x]).length ≤ 16) := Lib.hid (by simp; omega)
     clear hS h16
     go_wp2_with fail
     refine HT1.out.mono ?_
     rintro ev w3 ⟨rfl, rfl⟩
     go_wp2_with fail
     refine HF.out.mono ?_
     rintro ev w4 ⟨rfl, rfl⟩
     go_wp2_with fail
     go_region_law (first | (refine step_append_lies _ (by rfl) _ _ _ (by rfl) w.heap.size 63 i0 _ 3 48 Tryz.underlying22 hi hz0 hz1 hz2 rfl (by decide) (.slice A ins.length cv) ins.length us.flatten (by rfl) ((own_far' HOW.out hk6.undrew (fun z hz => ⟨94, by rw [List.mem_singleton.1 hz]; exact HP.out.ty, by decide⟩)).alloc _) ⟨w6.heap.size, 0, none⟩ 1 1 ([.int .i64 x.at_, .string (bs x.name), .slice Av x.cols.length cvv]) (by rfl) rfl (World.news_of_block (heap_alloc_new _ _)) (by simp [Value.oneCell']) (by decide) hbd.out.1 hbd.out.2 (by have := HKY.out.size; have := hk6.size; have h9 : y.drew.heap.size = y.heap.size := rfl; simp; omega) _ rfl ?_; intro gw cap w7 hown7 hgrow7 hat7 hlt7; obtain ⟨fS7, fZ7⟩ := fld_grown hgrow7 (fld_alloc ⟨fS6, fZ6⟩ _) (fun e => (own_ty HOW.out fb e).ne HS.out.fbk.ty (by decide) rfl)) | (go_simp; go_at_call 75; refine (HC.out _ (Keeps.refl [] y).drew).mono ?_; rintro e w6 ⟨⟨v, rfl, hov, hp6⟩, hk6⟩; obtain ⟨Av, cvv, rfl, -⟩ := own_form hov; obtain ⟨fS6, fZ6⟩ := fld_keeps hk6 fS HNE.out; have gl6 : fb < w6.heap.size := World.block_lt_of_cell? w6 ⟨fb, 0, none⟩ fS6))
     all_goals
      have HS6 := HS.out.ps HP.out hk6.undrew
      have HO6 := (own_far' HOW.out hk6.undrew (fun z hz => ⟨94, by rw [List.mem_singleton.1 hz]; exact HP.out.ty, by decide⟩))
      have HEL6 := fun j h1 h2 => InEl.far (S := flTys) ⟨hk6.undrew, fun z hz => ⟨94, by rw [List.mem_singleton.1 hz]; exact HP.out.ty, by decide⟩⟩ (by decide) _ _ (HEL.out j h1 h2)
      have hr7 := own_ty HO6
      have HK6 := HK.out.trans hk6.undrew
      have HS7 := Lib.hid (FlSt.app0 HS6 HUL.out HO6 HEL6 ⟨_, rfl, own_low hov HKY.out.size⟩ hgrow7 hown7)
      have HP7 := Lib.hid (ps7 (k := 0) (u := .slice (some ⟨gw, 0, none⟩) (ins.length + 1) cap) HS6 hp6 hgrow7 hr7 (by decide) (by decide))
      have HK7 := Lib.hid (FlSt.keeps7 (k := 0) (u := .slice (some ⟨gw, 0, none⟩) (ins.length + 1) cap) HS6 HK6 hgrow7 (fun z hz => (HOW.out.lt z hz).1))
      clear HS6 HO6 HEL6 hr7 HK6
      go_wp2
      go_roundw
      case rel => exact ⟨_, ins ++ [x], r, n - 1, HRR, by have := HLE.out; have := HQN.out; omega, Lib.hid (by have := HLE.out; have := HQL.out; omega), HL1.out, HS7, HP7, HK7⟩
      case measure => rw [HP7.out.left, HM.out]; exact HLE.out
 case rest =>
  clear HS HP HK HR
  obtain ⟨v0, ins, q1, HR, HQL1, HS, HP, HK⟩ := hcut
  obtain ⟨y1, rfl⟩ : ∃ y : World, y = wc := ⟨_, rfl⟩
  go_upto_block 2 with (fail)
  go_cut [] (fun wx => ∃ (v1 : Value) (jobs : List Jb) (q : List Tk), Hid (flow2 ins (jobs, q) = R) ∧ Hid (q.length ≤ l.length) ∧ Hid (FlSt wx w.heap.size w.heap.size rb fb b v0 v1 (.slice none 0 0) ins jobs []) ∧ Hid (Ps wx b q) ∧ Hid (Keeps [b] w wx))
  case first =>
   go_wp2_with fail
   go_loopw [] (fun wx => ∃ (v1 : Value) (jobs : List Jb) (q : List Tk) (n : Nat), Hid (manyP [106, 111, 98] jobP n q jobs >>= flow2 ins = R) ∧ q.length ≤ n ∧ Hid (q.length ≤ l.length) ∧ jobs.length ≤ 16 ∧ Hid (FlSt wx w.heap.size w.heap.size rb fb b v0 v1 (.slice none 0 0) ins jobs []) ∧ Hid (Ps wx b q) ∧ Hid (Keeps [b] w wx)) (fun wx => leftT b wx)
   case atStart => exact ⟨_, [], q1, q1.length, HR, Nat.le_refl _, HQL1, by simp, HS, HP, HK⟩
   case round =>
    clear HS HP HK HR
    obtain ⟨v1, jobs, q, n, HR, hqn, HQL, hcnt, HS, HP, HK⟩ := hrel
    obtain ⟨y, rfl⟩ : ∃ y : World, y = wr := ⟨_, rfl⟩
    have hq1 := HP.out.endT.pos
    have hn0 : 0 < n := by omega
    have HN0 := Lib.hid hn0
    have HQN := Lib.hid hqn
    have HQ1 := Lib.hid hq1
    have p0 : y.cell? ⟨w.heap.size, 0, none⟩ = some (.pointer (some ⟨b, 0, none⟩)) := HS.out.pbk.cell 0
    have lp := HS.out.pbk.lt
    have lf := HS.out.fbk.lt
    obtain ⟨us, hul, how, hel⟩ := HS.out.i1
    obtain ⟨A, cv, rfl, -⟩ := own_form how
    have HOW := Lib.hid how
    have HUL := Lib.hid hul
    have HEL := Lib.hid hel
    have HKY := HK
    have f0 : y.cell? ⟨fb, 1, none⟩ = some (.slice A jobs.length cv) := HS.out.fbk.cell 1
    have HM := Lib.hid HP.out.left
    have HT := see_any [106, 111, 98] y HP.out
    clear how hul hel hn0 hqn hq1
    cases hs : seeP [106, 111, 98] q with
    | false =>
     rw [hs] at HT
     have HT1 := Lib.hid HT
     have HRR : Hid (flow2 ins (jobs, q) = R) := Lib.hid (by rw [← HR.out, many_no hs]; rfl)
     clear HT hs
     go_wp2_with fail
     refine HT1.out.mono ?_
     rintro ev w3 ⟨rfl, rfl⟩
     go_wp2
     go_meet
     exact ⟨_, jobs, q, HRR, HQL, HS, HP, HK⟩
    | true =>
     rw [hs] at HT
     have HT1 := Lib.hid HT
     have HSE := Lib.hid hs
     clear HT hs
     by_cases h16 : jobs.length = 16
     ·have HX : Hid (R = .error (4, (hdT q).at_)) := Lib.hid (by rw [← HR.out, many_full HSE.out HN0.out h16]; rfl)
      have HF := Lib.hid (full_yes jobs.length HS.out.pbk HP.out h16)
      clear h16
      go_wp2_with fail
      refine HT1.out.mono ?_
      rintro ev w3 ⟨rfl, rfl⟩
      go_wp2_with fail
      refine HF.out.mono ?_
      rintro ev w9 ⟨⟨gi, rfl, hb⟩, hk9⟩
      exact ⟨rfl, by rw [HX.out]; exact ⟨gi, rfl, hb⟩, HK.out.trans hk9.of_nil⟩
     have HF := Lib.hid (full_no jobs.length HS.out.pbk HP.out h16)
     have fS : y.cell? ⟨fb, 1, none⟩ = some (.slice A jobs.length cv) ∧ y.frozen? ⟨fb, 1, none⟩ = false := ⟨f0, HS.out.fbk.frozen 1⟩
     have hbd := Lib.hid (show jobs.length + 1 ≤ maxLen ∧ (jobs.length + 1) * 208 ≤ 140737488355328 by simp only [maxLen]; omega)
     have HNE : Hid (fb ∉ [b]) := Lib.hid (by have := HS.out.fbk.ty.ne HP.out.ty (by decide); simpa using this)
     rcases hS : jobP q with x | ⟨x, r⟩
     ·have HX : Hid (R = .error x) := Lib.hid (by rw [← HR.out, many_err HSE.out HN0.out h16 hS]; rfl)
      have HC : Hid (∀ W, Keeps [] y W → Calls Tryz.prog 76 #[.pointer (some ⟨b, 0, none⟩)] W fun e w' => Thrown x e w' ∧ Keeps [b] W w') := Lib.hid (fun W z => by
       have h := job_any W ((HE.out.one hlo HK.out).quiet z) hlo (HP.out.keep z) (Nat.le_trans HQL.out HLL.out)
       rw [hS] at h
       exact h)
      clear hS h16
      go_wp2_with fail
      refine HT1.out.mono ?_
      rintro ev w3 ⟨rfl, rfl⟩
      go_wp2_with fail
      refine HF.out.mono ?_
      rintro ev w4 ⟨rfl, rfl⟩
      go_wp2_with fail
      go_region_law (first | (refine step_append_lies _ (by rfl) _ _ _ (by rfl) w.heap.size 45 i1 _ 15 208 Tryz.underlying23 hj hy0 hy1 hy2 rfl (by decide) (.slice A jobs.length cv) jobs.length us.flatten (by rfl) ((own_far' HOW.out hk6.undrew (fun z hz => ⟨94, by rw [List.mem_singleton.1 hz]; exact HP.out.ty, by decide⟩)).alloc _) ⟨w6.heap.size, 0, none⟩ 1 1 ([.int .i64 0, .int .i64 0, .slice none 0 0, .slice none 0 0, .slice none 0 0, .string (bs []), .string (bs []), .int .i64 0, .int .i64 0, .string (bs []), .string (bs []), .int .i64 0, .int .i64 0, .string (bs []), .int .i64 0]) (by rfl) rfl (World.news_of_block (heap_alloc_new _ _)) (by simp [Value.oneCell']) (by decide) hbd.out.1 hbd.out.2 (by have := HKY.out.size; have := hk6.size; have h9 : y.drew.heap.size = y.heap.size := rfl; simp; omega) _ rfl ?_; intro gw cap w7 hown7 hgrow7 hat7 hlt7; obtain ⟨fS7, fZ7⟩ := fld_grown hgrow7 (fld_alloc ⟨fS6, fZ6⟩ _) (fun e => (own_ty HOW.out fb e).ne HS.out.fbk.ty (by decide) rfl)) | (go_simp; go_at_call 76; refine (HC.out _ (Keeps.refl [] y).drew).mono ?_; rintro e w6 ⟨⟨gi, rfl, hb⟩, hk6⟩; obtain ⟨fS6, fZ6⟩ := fld_keeps hk6 fS HNE.out; have gl6 : fb < w6.heap.size := World.block_lt_of_cell? w6 ⟨fb, 1, none⟩ fS6; dsimp only; (go_loud (refine fake_way ‹∀ (a : Act) (w : World), wpAny _ _ _ _ _ _ a w → _› (some 31) (.agg #[.int .i64 0, .int .i64 0, .slice none 0 0, .slice none 0 0, .slice none 0 0, .string (bs []), .string (bs []), .int .i64 0, .int .i64 0, .string (bs []), .string (bs []), .int .i64 0, .int .i64 0, .string (bs []), .int .i64 0]) ⟨rfl, by rw [HX.out]; exact ⟨gi, rfl, hb⟩, HK.out.trans hk6.undrew⟩ (fun hF => ?_)))))
      all_goals exact hF.out.elim
     ·have HRR : Hid (manyP [106, 111, 98] jobP (n - 1) r (jobs ++ [x]) >>= flow2 ins = R) := Lib.hid (by rw [← HR.out, many_ok HSE.out HN0.out h16 hS])
      have HC : Hid (∀ W, Keeps [] y W → Calls Tryz.prog 76 #[.pointer (some ⟨b, 0, none⟩)] W fun e w' => (∃ w2 w3 w4, e = .returned (.agg #[.int .i64 x.at_, .int .i64 x.code, w2, w3, w4, .string (bs x.op), .string (bs x.left.col), .int .i64 x.left.val.kind, .int .i64 x.left.val.num, .string (bs x.left.val.word), .string (bs x.right.col), .int .i64 x.right.val.kind, .int .i64 x.right.val.num, .string (bs x.right.val.word), .int .i64 x.retry]) ∧ JRows w' y.heap.size x w2 w3 w4 ∧ Ps w' b r) ∧ Keeps [b] W w') := Lib.hid (fun W z => by
       have h := job_any W ((HE.out.one hlo HK.out).quiet z) hlo (HP.out.keep z) (Nat.le_trans HQL.out HLL.out)
       rw [hS] at h
       refine h.mono (fun e w' h => ⟨?_, h.2⟩)
       have h2 := h.1
       simp only [JobOut] at h2
       obtain ⟨v2, v3, v4, h3, h4, h5⟩ := h2
       exact ⟨v2, v3, v4, h3, ⟨own_low h4.o2 z.size, own_low h4.o3 z.size, own_low h4.o4 z.size⟩, h5⟩)
      have HLE := Lib.hid (jobP_le HQ1.out hS)
      have HL1 : Hid ((jobs ++ [x]).length ≤ 16) := Lib.hid (by simp; omega)
      clear hS h16
      go_wp2_with fail
      refine HT1.out.mono ?_
      rintro ev w3 ⟨rfl, rfl⟩
      go_wp2_with fail
      refine HF.out.mono ?_
      rintro ev w4 ⟨rfl, rfl⟩
      go_wp2_with fail
      go_region_law (first | (refine step_append_lies _ (by rfl) _ _ _ (by rfl) w.heap.size 45 i1 _ 15 208 Tryz.underlying23 hj hy0 hy1 hy2 rfl (by decide) (.slice A jobs.length cv) jobs.length us.flatten (by rfl) ((own_far' HOW.out hk6.undrew (fun z hz => ⟨94, by rw [List.mem_singleton.1 hz]; exact HP.out.ty, by decide⟩)).alloc _) ⟨w6.heap.size, 0, none⟩ 1 1 ([.int .i64 x.at_, .int .i64 x.code, .slice A2 x.outs.length c2, .slice A3 x.ins.length c3, .slice A4 x.cols.length c4, .string (bs x.op), .string (bs x.left.col), .int .i64 x.left.val.kind, .int .i64 x.left.val.num, .string (bs x.left.val.word), .string (bs x.right.col), .int .i64 x.right.val.kind, .int .i64 x.right.val.num, .string (bs x.right.val.word), .int .i64 x.retry]) (by rfl) rfl (World.news_of_block (heap_alloc_new _ _)) (by simp [Value.oneCell']) (by decide) hbd.out.1 hbd.out.2 (by have := HKY.out.size; have := hk6.size; have h9 : y.drew.heap.size = y.heap.size := rfl; simp; omega) _ rfl ?_; intro gw cap w7 hown7 hgrow7 hat7 hlt7; obtain ⟨fS7, fZ7⟩ := fld_grown hgrow7 (fld_alloc ⟨fS6, fZ6⟩ _) (fun e => (own_ty HOW.out fb e).ne HS.out.fbk.ty (by decide) rfl)) | (go_simp; go_at_call 76; refine (HC.out _ (Keeps.refl [] y).drew).mono ?_; rintro e w6 ⟨⟨w2, w3, w4, rfl, hrows, hp6⟩, hk6⟩; obtain ⟨A2, c2, rfl, -⟩ := own_form hrows.o2; obtain ⟨A3, c3, rfl, -⟩ := own_form hrows.o3; obtain ⟨A4, c4, rfl, -⟩ := own_form hrows.o4; obtain ⟨fS6, fZ6⟩ := fld_keeps hk6 fS HNE.out; have gl6 : fb < w6.heap.size := World.block_lt_of_cell? w6 ⟨fb, 1, none⟩ fS6))
      all_goals
       have HS6 := HS.out.ps HP.out hk6.undrew
       have HO6 := (own_far' HOW.out hk6.undrew (fun z hz => ⟨94, by rw [List.mem_singleton.1 hz]; exact HP.out.ty, by decide⟩))
       have HEL6 := fun j h1 h2 => JbEl.far (S := flTys) ⟨hk6.undrew, fun z hz => ⟨94, by rw [List.mem_singleton.1 hz]; exact HP.out.ty, by decide⟩⟩ (by decide) _ _ (HEL.out j h1 h2)
       have hr7 := own_ty HO6
       have HK6 := HK.out.trans hk6.undrew
       have HS7 := Lib.hid (FlSt.app1 HS6 HUL.out HO6 HEL6 ⟨_, _, _, rfl, ⟨own_low hrows.o2 HKY.out.size, own_low hrows.o3 HKY.out.size, own_low hrows.o4 HKY.out.size⟩⟩ hgrow7 hown7)
       have HP7 := Lib.hid (ps7 (k := 1) (u := .slice (some ⟨gw, 0, none⟩) (jobs.length + 1) cap) HS6 hp6 hgrow7 hr7 (by decide) (by decide))
       have HK7 := Lib.hid (FlSt.keeps7 (k := 1) (u := .slice (some ⟨gw, 0, none⟩) (jobs.length + 1) cap) HS6 HK6 hgrow7 (fun z hz => (HOW.out.lt z hz).1))
       clear HS6 HO6 HEL6 hr7 HK6
       go_wp2
       go_roundw
       case rel => exact ⟨_, jobs ++ [x], r, n - 1, HRR, by have := HLE.out; have := HQN.out; omega, Lib.hid (by have := HLE.out; have := HQL.out; omega), HL1.out, HS7, HP7, HK7⟩
       case measure => rw [HP7.out.left, HM.out]; exact HLE.out
  case rest =>
   clear HS HP HK HR
   obtain ⟨v1, jobs, q2, HR, HQL2, HS, HP, HK⟩ := hcut
   obtain ⟨y2, rfl⟩ : ∃ y : World, y = wc := ⟨_, rfl⟩
   go_upto_block 4 with (fail)
   go_cut [] (fun wx => ∃ (v2 : Value) (outs : List Pb) (q : List Tk), Hid (flow3 ins jobs (outs, q) = R) ∧ Hid (FlSt wx w.heap.size w.heap.size rb fb b v0 v1 v2 ins jobs outs) ∧ Hid (Ps wx b q) ∧ Hid (Keeps [b] w wx))
   case first =>
    go_wp2_with fail
    go_loopw [] (fun wx => ∃ (v2 : Value) (outs : List Pb) (q : List Tk) (n : Nat), Hid (manyP [111, 117, 116] outP n q outs >>= flow3 ins jobs = R) ∧ q.length ≤ n ∧ Hid (q.length ≤ l.length) ∧ outs.length ≤ 16 ∧ Hid (FlSt wx w.heap.size w.heap.size rb fb b v0 v1 v2 ins jobs outs) ∧ Hid (Ps wx b q) ∧ Hid (Keeps [b] w wx)) (fun wx => leftT b wx)
    case atStart => exact ⟨_, [], q2, q2.length, HR, Nat.le_refl _, HQL2, by simp, HS, HP, HK⟩
    case round =>
     clear HS HP HK HR
     obtain ⟨v2, outs, q, n, HR, hqn, HQL, hcnt, HS, HP, HK⟩ := hrel
     obtain ⟨y, rfl⟩ : ∃ y : World, y = wr := ⟨_, rfl⟩
     have hq1 := HP.out.endT.pos
     have hn0 : 0 < n := by omega
     have HN0 := Lib.hid hn0
     have HQN := Lib.hid hqn
     have HQ1 := Lib.hid hq1
     have p0 : y.cell? ⟨w.heap.size, 0, none⟩ = some (.pointer (some ⟨b, 0, none⟩)) := HS.out.pbk.cell 0
     have lp := HS.out.pbk.lt
     have lf := HS.out.fbk.lt
     obtain ⟨us, hul, how, hel⟩ := HS.out.i2
     obtain ⟨A, cv, rfl, -⟩ := own_form how
     have HOW := Lib.hid how
     have HUL := Lib.hid hul
     have HEL := Lib.hid hel
     have f0 : y.cell? ⟨fb, 2, none⟩ = some (.slice A outs.length cv) := HS.out.fbk.cell 2
     have HM := Lib.hid HP.out.left
     have HT := see_any [111, 117, 116] y HP.out
     clear how hul hel hn0 hqn hq1
     cases hs : seeP [111, 117, 116] q with
     | false =>
      rw [hs] at HT
      have HT1 := Lib.hid HT
      have HRR : Hid (flow3 ins jobs (outs, q) = R) := Lib.hid (by rw [← HR.out, many_no hs]; rfl)
      clear HT hs
      go_wp2_with fail
      refine HT1.out.mono ?_
      rintro ev w3 ⟨rfl, rfl⟩
      go_wp2
      go_meet
      exact ⟨_, outs, q, HRR, HS, HP, HK⟩
     | true =>
      rw [hs] at HT
      have HT1 := Lib.hid HT
      have HSE := Lib.hid hs
      clear HT hs
      by_cases h16 : outs.length = 16
      ·have HX : Hid (R = .error (4, (hdT q).at_)) := Lib.hid (by rw [← HR.out, many_full HSE.out HN0.out h16]; rfl)
       have HF := Lib.hid (full_yes outs.length HS.out.pbk HP.out h16)
       clear h16
       go_wp2_with fail
       refine HT1.out.mono ?_
       rintro ev w3 ⟨rfl, rfl⟩
       go_wp2_with fail
       refine HF.out.mono ?_
       rintro ev w9 ⟨⟨gi, rfl, hb⟩, hk9⟩
       exact ⟨rfl, by rw [HX.out]; exact ⟨gi, rfl, hb⟩, HK.out.trans hk9.of_nil⟩
      have HF := Lib.hid (full_no outs.length HS.out.pbk HP.out h16)
      have H16 := Lib.hid h16
      have hbd := Lib.hid (show outs.length + 1 ≤ maxLen ∧ (outs.length + 1) * 40 ≤ 140737488355328 by simp only [maxLen]; omega)
      obtain ⟨at_, hat⟩ : ∃ a, (hdT q).at_ = a := ⟨_, rfl⟩
      obtain ⟨O, hO⟩ : ∃ O, outP q = O := ⟨_, rfl⟩
      have HOQ := Lib.hid hO
      unfold outP at hO
      rw [hat] at hO
      have HO := Lib.hid hO
      obtain ⟨g, o, c, c0, z0, lb, lg, -, hn, hc, hc2, k0, k1, k2, -⟩ := HP.out.open'
      rw [hat] at k2
      have hn2 : (0 : Int) < (q.length : Int) := by omega
      clear h16 hO hat
      go_wp2_with fail
      refine HT1.out.mono ?_
      rintro ev w3 ⟨rfl, rfl⟩
      go_wp2_with fail
      refine HF.out.mono ?_
      rintro ev w4 ⟨rfl, rfl⟩
      go_upto_region 12 with (fail)
      have hxn := Blk.new y 83 #[.int .i64 at_, .string ⟨#[]⟩, .string ⟨#[]⟩]
      have hk1 := (Keeps.refl [] y).alloc (.cells #[.int .i64 at_, .string ⟨#[]⟩, .string ⟨#[]⟩] 83)
      have hp1 := HP.out.keep hk1
      obtain ⟨x0, hx0'⟩ : ∃ x, y.alloc (.cells #[.int .i64 at_, .string ⟨#[]⟩, .string ⟨#[]⟩] 83) = x := ⟨_, rfl⟩
      rw [hx0'] at hxn hk1 hp1 ⊢
      have HBX : Hid (y.heap.size ∉ [b]) := Lib.hid (by have := HP.out.lt; simp; omega)
      have HXY : Hid (y.heap.size ≤ y.heap.size) := Lib.hid (Nat.le_refl _)
      obtain ⟨xb, hxb⟩ : ∃ x, y.heap.size = x := ⟨_, rfl⟩
      have HXY : Hid (y.heap.size ≤ xb) := Lib.hid (by omega)
      rw [hxb] at hxn HBX ⊢
      have HXB := Lib.hid hxn
      have HPX := Lib.hid hp1
      have HKX : Hid (Keeps [b] y x0) := Lib.hid hk1.of_nil
      clear hxn hk1 hp1 hx0' hxb c0 z0 lb lg hn hc hc2 k0 k1 k2 hn2 p0 lp lf f0 HT1 HF
      have p0 : x0.cell? ⟨w.heap.size, 0, none⟩ = some (.pointer (some ⟨b, 0, none⟩)) := (HS.out.ps HP.out HKX.out).pbk.cell 0
      have lp := (HS.out.ps HP.out HKX.out).pbk.lt
      rcases hS : mustP [111, 117, 116] q with x | r1
      ·have HX : Hid (R = .error x) := Lib.hid (by
        have ho := HO.out
        rw [hS, err_bind] at ho
        rw [← HR.out, many_err HSE.out HN0.out H16.out (HOQ.out.trans ho.symm)]
        rfl)
       have HC := Lib.hid (must_no hS x0 HPX.out)
       clear hS
       go_wp2_with fail
       refine HC.out.mono ?_
       rintro ev w9 ⟨⟨gi, rfl, hb⟩, hk9⟩
       exact ⟨rfl, by rw [HX.out]; exact ⟨gi, rfl, hb⟩, (HK.out.trans HKX.out).trans hk9⟩
      have ho := HO.out
      rw [hS, ok_bind] at ho
      try dsimp only at ho
      clear HO
      have HO := Lib.hid ho
      clear ho
      have HC := Lib.hid (must_yes hS x0 HPX.out)
      clear hS
      go_wp2_with fail
      refine HC.out.mono ?_
      rintro ev x1 ⟨rfl, hp, hk⟩
      have HXB' := Lib.hid (HXB.out.keep hk HBX.out)
      have HKX' := Lib.hid (HKX.out.trans hk)
      clear HPX HKX HXB HC p0 lp
      have HPX := Lib.hid hp
      have HXB := HXB'
      have HKX := HKX'
      clear hp hk HXB' HKX'
      have p0 : x1.cell? ⟨w.heap.size, 0, none⟩ = some (.pointer (some ⟨b, 0, none⟩)) := (HS.out.ps HP.out HKX.out).pbk.cell 0
      have lp := (HS.out.ps HP.out HKX.out).pbk.lt
      rcases hS : nameP r1 with x | ⟨a2, r2⟩
      ·have HX : Hid (R = .error x) := Lib.hid (by
        have ho := HO.out
        rw [hS, err_bind] at ho
        rw [← HR.out, many_err HSE.out HN0.out H16.out (HOQ.out.trans ho.symm)]
        rfl)
       have HC := Lib.hid (name_no hS x1 HPX.out)
       clear hS
       go_wp2_with fail
       refine HC.out.mono ?_
       rintro ev w9 ⟨⟨gi, rfl, hb⟩, hk9⟩
       exact ⟨rfl, by rw [HX.out]; exact ⟨gi, rfl, hb⟩, (HK.out.trans HKX.out).trans hk9⟩
      have ho := HO.out
      rw [hS, ok_bind] at ho
      try dsimp only at ho
      clear HO
      have HO := Lib.hid ho
      clear ho
      have HC := Lib.hid (name_yes hS x1 HPX.out)
      clear hS
      go_wp2_with fail
      refine HC.out.mono ?_
      rintro ev x2 ⟨rfl, hp, hk⟩
      have HXB' := Lib.hid (HXB.out.keep hk HBX.out)
      have HKX' := Lib.hid (HKX.out.trans hk)
      clear HPX HKX HXB HC p0 lp
      have HPX := Lib.hid hp
      have HXB := HXB'
      have HKX := HKX'
      clear hp hk HXB' HKX'
      have p0 : x2.cell? ⟨w.heap.size, 0, none⟩ = some (.pointer (some ⟨b, 0, none⟩)) := (HS.out.ps HP.out HKX.out).pbk.cell 0
      have lp := (HS.out.ps HP.out HKX.out).pbk.lt
      have xf := HXB.out.frozen 1
      have xc : x2.cell? ⟨xb, 1, none⟩ = some (.string ⟨#[]⟩) := HXB.out.cell 1
      have lx := HXB.out.lt
      have hkb : Keeps [xb] x2 (x2.setCell ⟨xb, 1, none⟩ (.string (bs a2))) := (Keeps.refl _ _).setCell (.inl (by simp)) _
      have HXB' := Lib.hid (set3_1 (u := .string (bs a2)) HXB.out)
      have HPX' := Lib.hid (HPX.out.far hkb (fun z hz => ⟨83, by rw [List.mem_singleton.1 hz]; exact HXB.out.ty, by decide, by decide⟩))
      have HKX' : Hid (Keeps [b] y (x2.setCell ⟨xb, 1, none⟩ (.string (bs a2)))) := Lib.hid (HKX.out.setCell (.inr HXY.out) _)
      clear hkb
      go_upto_region 14 with (fail)
      obtain ⟨x3, hy⟩ : ∃ x, (x2.setCell ⟨xb, 1, none⟩ (.string (bs a2))) = x := ⟨_, rfl⟩
      rw [hy] at HXB' HPX' HKX' ⊢
      clear hy xf xc lx HXB HPX HKX p0 lp
      have HXB := HXB'
      have HPX := HPX'
      have HKX := HKX'
      clear HXB' HPX' HKX'
      have p0 : x3.cell? ⟨w.heap.size, 0, none⟩ = some (.pointer (some ⟨b, 0, none⟩)) := (HS.out.ps HP.out HKX.out).pbk.cell 0
      have lp := (HS.out.ps HP.out HKX.out).pbk.lt
      rcases hS : mustP [61] r2 with x | r4
      ·have HX : Hid (R = .error x) := Lib.hid (by
        have ho := HO.out
        rw [hS, err_bind] at ho
        rw [← HR.out, many_err HSE.out HN0.out H16.out (HOQ.out.trans ho.symm)]
        rfl)
       have HC := Lib.hid (must_no hS x3 HPX.out)
       clear hS
       go_wp2_with fail
       refine HC.out.mono ?_
       rintro ev w9 ⟨⟨gi, rfl, hb⟩, hk9⟩
       exact ⟨rfl, by rw [HX.out]; exact ⟨gi, rfl, hb⟩, (HK.out.trans HKX.out).trans hk9⟩
      have ho := HO.out
      rw [hS, ok_bind] at ho
      try dsimp only at ho
      clear HO
      have HO := Lib.hid ho
      clear ho
      have HC := Lib.hid (must_yes hS x3 HPX.out)
      clear hS
      go_wp2_with fail
      refine HC.out.mono ?_
      rintro ev x4 ⟨rfl, hp, hk⟩
      have HXB' := Lib.hid (HXB.out.keep hk HBX.out)
      have HKX' := Lib.hid (HKX.out.trans hk)
      clear HPX HKX HXB HC p0 lp
      have HPX := Lib.hid hp
      have HXB := HXB'
      have HKX := HKX'
      clear hp hk HXB' HKX'
      have p0 : x4.cell? ⟨w.heap.size, 0, none⟩ = some (.pointer (some ⟨b, 0, none⟩)) := (HS.out.ps HP.out HKX.out).pbk.cell 0
      have lp := (HS.out.ps HP.out HKX.out).pbk.lt
      rcases hS : nameP r4 with x | ⟨a5, r5⟩
      ·have HX : Hid (R = .error x) := Lib.hid (by
        have ho := HO.out
        rw [hS, err_bind] at ho
        rw [← HR.out, many_err HSE.out HN0.out H16.out (HOQ.out.trans ho.symm)]
        rfl)
       have HC := Lib.hid (name_no hS x4 HPX.out)
       clear hS
       go_wp2_with fail
       refine HC.out.mono ?_
       rintro ev w9 ⟨⟨gi, rfl, hb⟩, hk9⟩
       exact ⟨rfl, by rw [HX.out]; exact ⟨gi, rfl, hb⟩, (HK.out.trans HKX.out).trans hk9⟩
      have ho := HO.out
      rw [hS, ok_bind] at ho
      try dsimp only at ho
      clear HO
      have HO := Lib.hid ho
      clear ho
      have HC := Lib.hid (name_yes hS x4 HPX.out)
      clear hS
      go_wp2_with fail
      refine HC.out.mono ?_
      rintro ev x5 ⟨rfl, hp, hk⟩
      have HXB' := Lib.hid (HXB.out.keep hk HBX.out)
      have HKX' := Lib.hid (HKX.out.trans hk)
      clear HPX HKX HXB HC p0 lp
      have HPX := Lib.hid hp
      have HXB := HXB'
      have HKX := HKX'
      clear hp hk HXB' HKX'
      have p0 : x5.cell? ⟨w.heap.size, 0, none⟩ = some (.pointer (some ⟨b, 0, none⟩)) := (HS.out.ps HP.out HKX.out).pbk.cell 0
      have lp := (HS.out.ps HP.out HKX.out).pbk.lt
      have xf := HXB.out.frozen 2
      have xc : x5.cell? ⟨xb, 2, none⟩ = some (.string ⟨#[]⟩) := HXB.out.cell 2
      have lx := HXB.out.lt
      have hkb : Keeps [xb] x5 (x5.setCell ⟨xb, 2, none⟩ (.string (bs a5))) := (Keeps.refl _ _).setCell (.inl (by simp)) _
      have HXB' := Lib.hid (set3_2 (u := .string (bs a5)) HXB.out)
      have HPX' := Lib.hid (HPX.out.far hkb (fun z hz => ⟨83, by rw [List.mem_singleton.1 hz]; exact HXB.out.ty, by decide, by decide⟩))
      have HKX' : Hid (Keeps [b] y (x5.setCell ⟨xb, 2, none⟩ (.string (bs a5)))) := Lib.hid (HKX.out.setCell (.inr HXY.out) _)
      clear hkb
      go_upto_region 16 with (fail)
      obtain ⟨x6, hy⟩ : ∃ x, (x5.setCell ⟨xb, 2, none⟩ (.string (bs a5))) = x := ⟨_, rfl⟩
      rw [hy] at HXB' HPX' HKX' ⊢
      clear hy xf xc lx HXB HPX HKX p0 lp
      have HXB := HXB'
      have HPX := HPX'
      have HKX := HKX'
      clear HXB' HPX' HKX'
      have p0 : x6.cell? ⟨w.heap.size, 0, none⟩ = some (.pointer (some ⟨b, 0, none⟩)) := (HS.out.ps HP.out HKX.out).pbk.cell 0
      have lp := (HS.out.ps HP.out HKX.out).pbk.lt
      rcases hS : mustP [59] r5 with x | r7
      ·have HX : Hid (R = .error x) := Lib.hid (by
        have ho := HO.out
        rw [hS, err_bind] at ho
        rw [← HR.out, many_err HSE.out HN0.out H16.out (HOQ.out.trans ho.symm)]
        rfl)
       have HC := Lib.hid (must_no hS x6 HPX.out)
       clear hS
       go_wp2_with fail
       refine HC.out.mono ?_
       rintro ev w9 ⟨⟨gi, rfl, hb⟩, hk9⟩
       exact ⟨rfl, by rw [HX.out]; exact ⟨gi, rfl, hb⟩, (HK.out.trans HKX.out).trans hk9⟩
      have ho := HO.out
      rw [hS, ok_bind] at ho
      try dsimp only at ho
      clear HO
      have HO := Lib.hid ho
      clear ho
      have HC := Lib.hid (must_yes hS x6 HPX.out)
      clear hS
      go_wp2_with fail
      refine HC.out.mono ?_
      rintro ev x7 ⟨rfl, hp, hk⟩
      have HXB' := Lib.hid (HXB.out.keep hk HBX.out)
      have HKX' := Lib.hid (HKX.out.trans hk)
      clear HPX HKX HXB HC p0 lp
      have HPX := Lib.hid hp
      have HXB := HXB'
      have HKX := HKX'
      clear hp hk HXB' HKX'
      have p0 : x7.cell? ⟨w.heap.size, 0, none⟩ = some (.pointer (some ⟨b, 0, none⟩)) := (HS.out.ps HP.out HKX.out).pbk.cell 0
      have lp := (HS.out.ps HP.out HKX.out).pbk.lt
      have HX : Hid (manyP [111, 117, 116] outP (n - 1) r7 (outs ++ [⟨at_, a2, a5⟩]) >>= flow3 ins jobs = R) := Lib.hid (by
       rw [← HR.out, many_ok HSE.out HN0.out H16.out (HOQ.out.trans HO.out.symm)])
      have HLE := Lib.hid (outP_le HQ1.out (HOQ.out.trans HO.out.symm))
      have HL1 : Hid ((outs ++ [⟨at_, a2, a5⟩] : List Pb).length ≤ 16) := Lib.hid (by have := H16.out; simp; omega)
      have HSZ := Lib.hid (HS.out.ps HP.out HKX.out)
      have fS : x7.cell? ⟨fb, 2, none⟩ = some (.slice A outs.length cv) ∧ x7.frozen? ⟨fb, 2, none⟩ = false := ⟨HSZ.out.fbk.cell 2, HSZ.out.fbk.frozen 2⟩
      obtain ⟨fc, ff⟩ := fS
      have c0' : x7.cell? ⟨xb, 0, none⟩ = some (.int .i64 at_) := HXB.out.cell 0
      have c1' : x7.cell? ⟨xb, 1, none⟩ = some (.string (bs a2)) := HXB.out.cell 1
      have c2' : x7.cell? ⟨xb, 2, none⟩ = some (.string (bs a5)) := HXB.out.cell 2
      have lx := HXB.out.lt
      have lf := HSZ.out.fbk.lt
      have HO6 := Lib.hid (own_far' HOW.out HKX.out (fun z hz => ⟨94, by rw [List.mem_singleton.1 hz]; exact HP.out.ty, by decide⟩))
      have HWZ := Lib.hid (show w.heap.size ≤ x7.heap.size + 1 from Nat.le_succ_of_le (HK.out.trans HKX.out).size)
      clear HO
      go_wp2_with (at_builtin; refine wpList_append_lies _ rfl _ _ 24 rfl _ 83 i2 _ 3 40 Tryz.underlying24 hp hx0 hx1 hx2 rfl (by decide) _ outs.length us.flatten rfl (HO6.out.alloc _) ⟨x7.heap.size, 0, none⟩ 1 1 [.int .i64 at_, .string (bs a2), .string (bs a5)] rfl rfl (World.news_of_block (heap_alloc_new _ _)) (by simp [Value.oneCell']) (by decide) hbd.out.1 hbd.out.2 (by simp; exact HWZ.out) _ rfl ?_)
      intro gw cap2 w8 hown8 hgrow8 hat8 hlt8
      obtain ⟨fc8, ff8⟩ := fld_grown hgrow8 (fld_alloc ⟨fc, ff⟩ _) (fun e => (own_ty HO6.out fb e).ne HSZ.out.fbk.ty (by decide) rfl)
      have gl8 : fb < w8.heap.size := World.block_lt_of_cell? w8 ⟨fb, 2, none⟩ fc8
      have hr8 := own_ty HO6.out
      have HS8 := Lib.hid (FlSt.app2 (x := ⟨at_, a2, a5⟩) HSZ.out HUL.out HO6.out HEL.out rfl hgrow8 hown8)
      have HP8 := Lib.hid (ps7 (k := 2) (u := .slice (some ⟨gw, 0, none⟩) (outs.length + 1) cap2) HSZ.out HPX.out hgrow8 hr8 (by decide) (by decide))
      have HK8 := Lib.hid (FlSt.keeps7 (k := 2) (u := .slice (some ⟨gw, 0, none⟩) (outs.length + 1) cap2) HSZ.out (HK.out.trans HKX.out) hgrow8 (fun z hz => (HOW.out.lt z hz).1))
      clear hr8 hown8 hgrow8 hat8 hlt8 fc ff c0' c1' c2'
      go_wp2
      go_roundw
      case rel => exact ⟨_, outs ++ [⟨at_, a2, a5⟩], r7, n - 1, HX, by have := HLE.out; have := HQN.out; omega, Lib.hid (by have := HLE.out; have := HQL.out; omega), HL1.out, HS8, HP8, HK8⟩
      case measure => rw [HP8.out.left, HM.out]; exact HLE.out
   case rest =>
    clear HS HP HK HR
    obtain ⟨v2, outs, q3, HR, HS, HP, HK⟩ := hcut
    obtain ⟨y, rfl⟩ : ∃ y : World, y = wc := ⟨_, rfl⟩
    have HX : Hid (R = .ok (⟨ins, jobs, outs⟩, q3)) := Lib.hid HR.out.symm
    clear HR
    have i0' := HS.out.i0
    have i1' := HS.out.i1
    have i2' := HS.out.i2
    obtain ⟨us0, _, how0, _⟩ := i0'
    obtain ⟨us1, _, how1, _⟩ := i1'
    obtain ⟨us2, _, how2, _⟩ := i2'
    obtain ⟨A0, c0, rfl, -⟩ := own_form how0
    obtain ⟨A1, c1, rfl, -⟩ := own_form how1
    obtain ⟨A2, c2, rfl, -⟩ := own_form how2
    have f0 : y.cell? ⟨fb, 0, none⟩ = some (.slice A0 ins.length c0) := HS.out.fbk.cell 0
    have f1 : y.cell? ⟨fb, 1, none⟩ = some (.slice A1 jobs.length c1) := HS.out.fbk.cell 1
    have f2 : y.cell? ⟨fb, 2, none⟩ = some (.slice A2 outs.length c2) := HS.out.fbk.cell 2
    have g0 : y.cell? ⟨rb, 0, none⟩ = some (.slice none 0 0) := HS.out.rbk.cell 0
    have g1 : y.cell? ⟨rb, 1, none⟩ = some (.slice none 0 0) := HS.out.rbk.cell 1
    have g2 : y.cell? ⟨rb, 2, none⟩ = some (.slice none 0 0) := HS.out.rbk.cell 2
    have z0 := HS.out.rbk.frozen 0
    have z1 := HS.out.rbk.frozen 1
    have z2 := HS.out.rbk.frozen 2
    have lf := HS.out.fbk.lt
    have lr := HS.out.rbk.lt
    clear how0 how1 how2
    go_wp2
    have hb7 := set3_2 (u := .slice A2 outs.length c2) (set3_1 (u := .slice A1 jobs.length c1) (set3_0 (u := .slice A0 ins.length c0) HS.out.rbk))
    have y0' := hb7.cell 0
    have y1' := hb7.cell 1
    have y2' := hb7.cell 2
    have hkr : Keeps [rb] y (((y.setCell ⟨rb, 0, none⟩ (.slice A0 ins.length c0)).setCell ⟨rb, 1, none⟩ (.slice A1 jobs.length c1)).setCell ⟨rb, 2, none⟩ (.slice A2 outs.length c2)) := (((Keeps.refl _ _).setCell (.inl (by simp)) _).setCell (.inl (by simp)) _).setCell (.inl (by simp)) _
    have hfr : FarOf [9, 61, 63, 45, 83, 92] [rb] y _ := ⟨hkr, fun z hz => ⟨26, by rw [List.mem_singleton.1 hz]; exact HS.out.rbk.ty, by decide⟩⟩
    refine bodyPost_ret (v := .agg #[.slice A0 ins.length c0, .slice A1 jobs.length c1, .slice A2 outs.length c2]) (by simp [results, Tryz.results36, go_sem, y0', y1', y2']) rfl ⟨?_, ?_⟩
    ·rw [HX.out]
     exact ⟨_, _, _, rfl, HS.out.i0.far hfr (by decide) (by decide), HS.out.i1.far hfr (by decide) (by decide), HS.out.i2.far hfr (by decide), HP.out.far hkr (fun z hz => ⟨26, by rw [List.mem_singleton.1 hz]; exact HS.out.rbk.ty, by decide, by decide⟩)⟩
    ·exact HK.out.trans' hkr (fun x hx hl => by rw [List.mem_singleton.1 hx] at hl; have := HRB.out; omega)
end Go.Proofs.YtnjjajanfedjiaaGreatDoor
namespace Go.Proofs.YtnjjajanfedjiaaGreatDoor
open Go.RowKit Go.BigFrame
attribute [local go_sem] bs_size bs_extract bs_append bs_toList
theorem letter_any (b : UInt8) (w : World) : Calls Tryz.prog 110 #[.int .u8 (b.toNat : Int)] w fun e w' => e = .returned (.bool (letC b)) ∧ w = w' := by
 obtain ⟨R, hR⟩ : ∃ R, letC b = R := ⟨_, rfl⟩
 rw [hR]
 have HR : Hid (R = (decide (97 ≤ b.toNat) && decide (b.toNat ≤ 122))) := Lib.hid hR.symm
 clear hR
 by_cases h1 : 97 ≤ b.toNat
 ·have t1 : (97 : Int) ≤ (b.toNat : Int) := by omega
  by_cases h2 : b.toNat ≤ 122
  ·have t2 : (b.toNat : Int) ≤ (122 : Int) := by omega
   go_enter Tryz.func110, Tryz.ntmps110
   go_wp2
   go_ret
   exact ⟨by rw [HR.out, decide_eq_true h1, decide_eq_true h2]; rfl, rfl⟩
  ·have t2 : ¬ (b.toNat : Int) ≤ (122 : Int) := by omega
   go_enter Tryz.func110, Tryz.ntmps110
   go_wp2
   go_ret
   exact ⟨by rw [HR.out, decide_eq_true h1, decide_eq_false h2]; rfl, rfl⟩
 ·have t1 : ¬ (97 : Int) ≤ (b.toNat : Int) := by omega
  go_enter Tryz.func110, Tryz.ntmps110
  go_wp2
  go_ret
  exact ⟨by rw [HR.out, decide_eq_false h1]; rfl, rfl⟩
theorem digit_any (b : UInt8) (w : World) : Calls Tryz.prog 113 #[.int .u8 (b.toNat : Int)] w fun e w' => e = .returned (.bool (digC b)) ∧ w = w' := by
 obtain ⟨R, hR⟩ : ∃ R, digC b = R := ⟨_, rfl⟩
 rw [hR]
 have HR : Hid (R = (decide (48 ≤ b.toNat) && decide (b.toNat ≤ 57))) := Lib.hid hR.symm
 clear hR
 by_cases h1 : 48 ≤ b.toNat
 ·have t1 : (48 : Int) ≤ (b.toNat : Int) := by omega
  by_cases h2 : b.toNat ≤ 57
  ·have t2 : (b.toNat : Int) ≤ (57 : Int) := by omega
   go_enter Tryz.func113, Tryz.ntmps113
   go_wp2
   go_ret
   exact ⟨by rw [HR.out, decide_eq_true h1, decide_eq_true h2]; rfl, rfl⟩
  ·have t2 : ¬ (b.toNat : Int) ≤ (57 : Int) := by omega
   go_enter Tryz.func113, Tryz.ntmps113
   go_wp2
   go_ret
   exact ⟨by rw [HR.out, decide_eq_true h1, decide_eq_false h2]; rfl, rfl⟩
 ·have t1 : ¬ (48 : Int) ≤ (b.toNat : Int) := by omega
  go_enter Tryz.func113, Tryz.ntmps113
  go_wp2
  go_ret
  exact ⟨by rw [HR.out, decide_eq_false h1]; rfl, rfl⟩
theorem ld_any (b : UInt8) (w : World) : Calls Tryz.prog 112 #[.int .u8 (b.toNat : Int)] w fun e w' => e = .returned (.bool (ldC b)) ∧ w = w' := by
 obtain ⟨R, hR⟩ : ∃ R, ldC b = R := ⟨_, rfl⟩
 rw [hR]
 have HR : Hid (R = (letC b || digC b)) := Lib.hid hR.symm
 have HL := Lib.hid (letter_any b w)
 have HD := Lib.hid (digit_any b w)
 clear hR
 cases hl : letC b with
 | true =>
  rw [hl] at HL
  have HE := Lib.hid hl
  clear hl HD
  go_enter Tryz.func112, Tryz.ntmps112
  go_wp2_with fail
  refine HL.out.mono ?_
  rintro e W2 ⟨rfl, rfl⟩
  go_wp2
  go_ret
  exact ⟨by rw [HR.out, HE.out]; rfl, rfl⟩
 | false =>
  rw [hl] at HL
  have HE := Lib.hid hl
  clear hl
  go_enter Tryz.func112, Tryz.ntmps112
  go_wp2_with fail
  refine HL.out.mono ?_
  rintro e W2 ⟨rfl, rfl⟩
  go_wp2_with fail
  refine HD.out.mono ?_
  rintro e W2 ⟨rfl, rfl⟩
  go_wp2
  go_ret
  exact ⟨by rw [HR.out, HE.out]; rfl, rfl⟩
theorem runN_at (p : UInt8 → Bool) : ∀ (s : Bs) (n : Nat), n ≤ s.length → (∀ j (_ : j < n) (hl : j < s.length), p s[j] = true) → (∀ (hl : n < s.length), p s[n] = false) → runN p s = n
 | [], n, h, _, _ => by simp at h; rw [h]; rfl
 | c :: s, 0, _, _, h2 => by
  unfold runN
  have := h2 (by simp)
  rw [if_neg (by simpa using this)]
 | c :: s, n + 1, h, h1, h2 => by
  unfold runN
  have h0 := h1 0 (by omega) (by simp)
  rw [if_pos (by simpa using h0), runN_at p s n (by simpa using h) (fun j hj hl => h1 (j + 1) (Nat.succ_lt_succ hj) (Nat.succ_lt_succ hl)) (fun hl => h2 (Nat.succ_lt_succ hl))]
set_option maxHeartbeats 2000000 in
theorem run_any (k : Nat) (he : ∀ args w, (callFunc k args).run Tryz.prog w = .ok (.enter k args) w) (p : UInt8 → Bool) (s : Bs) (hsl : s.length ≤ 2000000) (w : World) (hf : ∀ c : UInt8, Calls Tryz.prog k #[.int .u8 (c.toNat : Int)] w fun e W' => e = .returned (.bool (p c)) ∧ w = W') :
  Calls Tryz.prog 111 #[.string (bs s), .func (.func k) #[] #[]] w fun e w' => e = .returned (.int .i64 (runN p s : Nat)) ∧ w = w' := by
 have HF := Lib.hid hf
 obtain ⟨R, hR⟩ : ∃ R, runN p s = R := ⟨_, rfl⟩
 rw [hR]
 have HR := Lib.hid hR
 clear hf hR
 go_enter Tryz.func111, Tryz.ntmps111
 go_wp2
 go_loop [5] (fun i => ∃ n : Nat, n ≤ s.length ∧ i = .int .i64 n ∧ Hid (∀ j (_ : j < n) (hl : j < s.length), p s[j] = true)) (fun i => s.length - (intOf i).toNat)
 case atStart => exact ⟨0, Nat.zero_le _, rfl, Lib.hid fun j hj => absurd hj (by omega)⟩
 case round =>
  obtain ⟨n, hn, rfl, hno⟩ := hrel
  by_cases hlt : n < s.length
  ·have hi : (n : Int) < (s.length : Int) := by omega
   have HH := Lib.hid (HF.out s[n])
   have hbyte : ((bs s)[n]'(by rw [bs_size]; exact hlt)) = s[n] := bs_get s n _
   generalize hx : s[n] = x at *
   have HX := Lib.hid hx
   clear hx
   cases hp : p x with
   | true =>
    rw [hp] at HH
    have HP := Lib.hid hp
    clear hp
    go_wp2_with fail
    refine HH.out.mono ?_
    rintro e W2 ⟨rfl, rfl⟩
    go_wp2
    go_round
    case rel => exact ⟨n + 1, by omega, by go_num, Lib.hid fun j hj hl => by
     by_cases h : j < n
     ·exact hno.out j h hl
     ·obtain rfl : j = n := by omega
      rw [HX.out]; exact HP.out⟩
    case measure => simp [intOf]; omega
   | false =>
    rw [hp] at HH
    have HP := Lib.hid hp
    clear hp
    go_wp2_with fail
    refine HH.out.mono ?_
    rintro e W2 ⟨rfl, rfl⟩
    go_wp2
    go_ret
    exact ⟨by rw [← HR.out, runN_at p s n hn hno.out (fun hl => by rw [HX.out]; exact HP.out)]; rfl, rfl⟩
  ·have hi : ¬ (n : Int) < (s.length : Int) := by omega
   go_wp2
   go_ret
   exact ⟨by rw [← HR.out, runN_at p s n hn hno.out (fun hl => absurd hl hlt)]; rfl, rfl⟩
set_option maxRecDepth 100000 in
set_option maxHeartbeats 4000000 in
theorem next_any (c : UInt8) (t : Bs) (hs : t.length ≤ 1000000) (w : World) (hE : FEnv w) :
  Calls Tryz.prog 72 #[.string (bs (c :: t))] w fun e w' => e = .returned (.tuple #[.int .i64 (nextL (c :: t)).1, .int .i64 (nextL (c :: t)).2]) ∧ w = w' := by
 obtain ⟨s, hcs⟩ : ∃ s, c :: t = s := ⟨_, rfl⟩
 have hlen : 0 < s.length := by rw [← hcs]; simp
 have hlen2 : s.length ≤ 1000001 := by rw [← hcs]; simp; omega
 have hi0 : (0 : Int) < (s.length : Int) := by omega
 have hbyte : ((bs s)[0]'(by rw [bs_size]; exact hlen)) = c := by rw [bs_get]; subst hcs; rfl
 have hhd : s.headD 0 = c := by rw [← hcs]; rfl
 have htl : s.tail = t := by rw [← hcs]; rfl
 obtain ⟨R, hR⟩ : ∃ R, nextL s = R := ⟨_, rfl⟩
 rw [hcs, hR]
 unfold nextL at hR
 rw [hhd, htl] at hR
 have HR := Lib.hid hR
 have HL := Lib.hid (letter_any c w)
 have HD := Lib.hid (digit_any c w)
 clear hR
 cases hl : letC c with
 | true =>
  rw [hl] at HL
  have HX : Hid (R = (1, (runN ldC s : Nat))) := Lib.hid (by rw [← HR.out, hl]; rfl)
  have HRUN := Lib.hid (run_any 112 (fun _ _ => rfl) ldC s (by omega) w (fun c => ld_any c w))
  clear hl HD HR hcs hhd htl
  go_enter Tryz.func72, Tryz.ntmps72
  go_wp2_with fail
  refine HL.out.mono ?_
  rintro e W2 ⟨rfl, rfl⟩
  go_wp2_with fail
  refine HRUN.out.mono ?_
  rintro e W2 ⟨rfl, rfl⟩
  go_wp2
  go_ret2
  exact ⟨by rw [HX.out]; rfl, rfl⟩
 | false =>
  rw [hl] at HL
  cases hd : digC c with
  | true =>
   rw [hd] at HD
   have HX : Hid (R = (2, (runN digC s : Nat))) := Lib.hid (by rw [← HR.out, hl, hd]; rfl)
   have HRUN := Lib.hid (run_any 113 (fun _ _ => rfl) digC s (by omega) w (fun c => digit_any c w))
   clear hl hd HR hcs hhd htl
   go_enter Tryz.func72, Tryz.ntmps72
   go_wp2_with fail
   refine HL.out.mono ?_
   rintro e W2 ⟨rfl, rfl⟩
   go_wp2_with fail
   refine HD.out.mono ?_
   rintro e W2 ⟨rfl, rfl⟩
   go_wp2_with fail
   refine HRUN.out.mono ?_
   rintro e W2 ⟨rfl, rfl⟩
   go_wp2
   go_ret2
   exact ⟨by rw [HX.out]; rfl, rfl⟩
  | false =>
   rw [hd] at HD
   have HR2 : Hid ((if c = 39 then ((3 : Int), if Lib.indexByte t 39 < 0 then 0 else (Lib.indexByte t 39).toNat + 2) else (4, markN s marksL)) = R) := Lib.hid (by rw [← HR.out, hl, hd]; rfl)
   have h39 : c = 39 ↔ (c.toNat : Int) = 39 := ⟨fun h => by rw [h]; rfl, fun h => UInt8.toNat_inj.1 (by have : (39 : UInt8).toNat = 39 := rfl; omega)⟩
   by_cases e39 : c = 39
   ·have t1 : ((c.toNat : Int) == 39) = true := by rw [beq_iff_eq]; exact h39.1 e39
    obtain ⟨k, hk⟩ : ∃ k, Lib.indexByte t 39 = k := ⟨_, rfl⟩
    have HX : Hid (R = (3, if k < 0 then 0 else k.toNat + 2)) := Lib.hid (by rw [← HR2.out, if_pos e39, hk])
    have hex : (bs s).extract 1 s.length = bs t := by rw [bs_extract, List.take_of_length_le (Nat.le_refl _), ← hcs]; rfl
    have HI : Hid (Calls Tryz.prog 86 #[.string (bs t), .int .u8 39] w fun e W' => e = .returned (.int .i64 k) ∧ w = W') := Lib.hid ((Tryz.strings_IndexByte (bs t) 39 w).mono fun e W' ⟨h1, h2⟩ => ⟨by rw [h1]; exact congrArg (fun x => Ending.returned (.int .i64 x)) hk, h2.symm⟩)
    have hkr : k ≤ 1000000 := by
     by_cases hn : k < 0
     ·omega
     ·have h1 := (Lib.indexByte_some (l := t) (c := 39) (o := k.toNat) (by rw [hk]; omega)).1
      have := (List.getElem?_eq_some_iff.1 h1).1
      omega
    clear hl hd HR hcs hhd htl HR2 h39 e39
    by_cases hneg : k < 0
    ·have hk0 : ¬ (0 : Int) ≤ k := by omega
     go_enter Tryz.func72, Tryz.ntmps72
     go_wp2_with fail
     refine HL.out.mono ?_
     rintro e W2 ⟨rfl, rfl⟩
     go_wp2_with fail
     refine HD.out.mono ?_
     rintro e W2 ⟨rfl, rfl⟩
     go_wp2_with fail
     refine HI.out.mono ?_
     rintro e W2 ⟨rfl, rfl⟩
     go_wp2
     go_ret2
     exact ⟨by rw [HX.out, if_pos hneg]; rfl, rfl⟩
    ·have hk0 : (0 : Int) ≤ k := by omega
     go_enter Tryz.func72, Tryz.ntmps72
     go_wp2_with fail
     refine HL.out.mono ?_
     rintro e W2 ⟨rfl, rfl⟩
     go_wp2_with fail
     refine HD.out.mono ?_
     rintro e W2 ⟨rfl, rfl⟩
     go_wp2_with fail
     refine HI.out.mono ?_
     rintro e W2 ⟨rfl, rfl⟩
     go_wp2
     go_ret2
     exact ⟨by rw [HX.out, if_neg (by omega : ¬ k < 0)]; exact congrArg (fun x => Ending.returned (.tuple #[.int .i64 3, .int .i64 x])) (by show k + 2 = ((k.toNat + 2 : Nat) : Int); omega), rfl⟩
   ·have t1 : ((c.toNat : Int) == 39) = false := by rw [beq_eq_false_iff_ne]; exact fun h => e39 (h39.2 h)
    have HX : Hid (R = (4, markN s marksL)) := Lib.hid (by rw [← HR2.out, if_neg e39])
    have HP : Hid (∀ m : Bs, Calls Tryz.prog 66 #[.string (bs s), .string (bs m)] w fun e W' => e = .returned (.bool (Lib.hasPrefix s m)) ∧ w = W') := Lib.hid fun m => (Tryz.strings_HasPrefix (bs s) (bs m) w).mono fun e W' ⟨h1, h2⟩ => ⟨h1, h2.symm⟩
    have m0 : w.cell? ⟨2, 0, none⟩ = some (.string (bs [60, 62])) := hE.marks 0 (by decide)
    have m1 : w.cell? ⟨2, 1, none⟩ = some (.string (bs [60, 61])) := hE.marks 1 (by decide)
    have m2 : w.cell? ⟨2, 2, none⟩ = some (.string (bs [62, 61])) := hE.marks 2 (by decide)
    have m3 : w.cell? ⟨2, 3, none⟩ = some (.string (bs [60])) := hE.marks 3 (by decide)
    have m4 : w.cell? ⟨2, 4, none⟩ = some (.string (bs [62])) := hE.marks 4 (by decide)
    have m5 : w.cell? ⟨2, 5, none⟩ = some (.string (bs [61])) := hE.marks 5 (by decide)
    have m6 : w.cell? ⟨2, 6, none⟩ = some (.string (bs [43])) := hE.marks 6 (by decide)
    have m7 : w.cell? ⟨2, 7, none⟩ = some (.string (bs [45])) := hE.marks 7 (by decide)
    have m8 : w.cell? ⟨2, 8, none⟩ = some (.string (bs [42])) := hE.marks 8 (by decide)
    have m9 : w.cell? ⟨2, 9, none⟩ = some (.string (bs [44])) := hE.marks 9 (by decide)
    have m10 : w.cell? ⟨2, 10, none⟩ = some (.string (bs [59])) := hE.marks 10 (by decide)
    have m11 : w.cell? ⟨2, 11, none⟩ = some (.string (bs [58])) := hE.marks 11 (by decide)
    have m12 : w.cell? ⟨2, 12, none⟩ = some (.string (bs [46])) := hE.marks 12 (by decide)
    have lm := World.block_lt_of_cell? _ _ m0
    clear hl hd HR hcs hhd htl HR2 h39 e39 hE
    go_enter Tryz.func72, Tryz.ntmps72
    go_wp2_with fail
    refine HL.out.mono ?_
    rintro e W2 ⟨rfl, rfl⟩
    go_wp2_with fail
    refine HD.out.mono ?_
    rintro e W2 ⟨rfl, rfl⟩
    go_wp2
    go_loop [31] (fun i => ∃ n : Nat, n ≤ 13 ∧ i = .int .i64 n ∧ Hid (markN s marksL = markN s (marksL.drop n))) (fun i => 13 - (intOf i).toNat)
    case atStart => exact ⟨0, Nat.zero_le _, rfl, Lib.hid rfl⟩
    case round =>
     clear m0 m1 m2 m3 m4 m5 m6 m7 m8 m9 m10 m11 m12 lm
     obtain ⟨n, hn, rfl, hno⟩ := hrel
     obtain h13 | h13 : n = 13 ∨ n < 13 := by omega
     ·subst h13
      go_wp2
      go_ret2
      exact ⟨by rw [HX.out, hno.out]; rfl, rfl⟩
     have hst : ∀ j (h : j < marksL.length), markN s (marksL.drop j) = if Lib.hasPrefix s marksL[j] then marksL[j].length else markN s (marksL.drop (j + 1)) := fun j h => by
      rw [List.drop_eq_getElem_cons h]; rfl
     obtain rfl | rfl | rfl | rfl | rfl | rfl | rfl | rfl | rfl | rfl | rfl | rfl | rfl : n = 0 ∨ n = 1 ∨ n = 2 ∨ n = 3 ∨ n = 4 ∨ n = 5 ∨ n = 6 ∨ n = 7 ∨ n = 8 ∨ n = 9 ∨ n = 10 ∨ n = 11 ∨ n = 12 := by omega
     ·have HH := Lib.hid (HP.out [60, 62])
      have ix : ∀ w, (Instr.index 168 (.agg #[.string (bs [60, 62]), .string (bs [60, 61]), .string (bs [62, 61]), .string (bs [60]), .string (bs [62]), .string (bs [61]), .string (bs [43]), .string (bs [45]), .string (bs [42]), .string (bs [44]), .string (bs [59]), .string (bs [58]), .string (bs [46])]) (.int .i64 0)).run Tryz.prog w = .ok (.string (bs [60, 62])) w := fun _ => by kernel_rfl
      have hs1 := hst 0 (by decide)
      rw [← hno.out] at hs1
      have HS := Lib.hid hs1
      clear hst hs1 hno
      cases hp : Lib.hasPrefix s [60, 62] with
      | true =>
       rw [hp] at HH
       have HQ : Hid (R = (4, 2)) := Lib.hid (by rw [HX.out, HS.out]; exact congrArg (Prod.mk 4) (if_pos hp))
       clear hp
       go_wp2_with fail
       refine HH.out.mono ?_
       rintro e W2 ⟨rfl, rfl⟩
       go_wp2
       go_ret2
       exact ⟨by rw [HQ.out]; rfl, rfl⟩
      | false =>
       rw [hp] at HH
       have HQ : Hid (markN s marksL = markN s (marksL.drop 1)) := Lib.hid (HS.out.trans (if_neg (by rw [show marksL[0] = [60, 62] from rfl, hp]; decide)))
       clear hp
       go_wp2_with fail
       refine HH.out.mono ?_
       rintro e W2 ⟨rfl, rfl⟩
       go_wp2
       go_round
       case rel => exact ⟨1, by omega, by go_num, HQ⟩
       case measure => simp [intOf]
     ·have HH := Lib.hid (HP.out [60, 61])
      have ix : ∀ w, (Instr.index 168 (.agg #[.string (bs [60, 62]), .string (bs [60, 61]), .string (bs [62, 61]), .string (bs [60]), .string (bs [62]), .string (bs [61]), .string (bs [43]), .string (bs [45]), .string (bs [42]), .string (bs [44]), .string (bs [59]), .string (bs [58]), .string (bs [46])]) (.int .i64 1)).run Tryz.prog w = .ok (.string (bs [60, 61])) w := fun _ => by kernel_rfl
      have hs1 := hst 1 (by decide)
      rw [← hno.out] at hs1
      have HS := Lib.hid hs1
      clear hst hs1 hno
      cases hp : Lib.hasPrefix s [60, 61] with
      | true =>
       rw [hp] at HH
       have HQ : Hid (R = (4, 2)) := Lib.hid (by rw [HX.out, HS.out]; exact congrArg (Prod.mk 4) (if_pos hp))
       clear hp
       go_wp2_with fail
       refine HH.out.mono ?_
       rintro e W2 ⟨rfl, rfl⟩
       go_wp2
       go_ret2
       exact ⟨by rw [HQ.out]; rfl, rfl⟩
      | false =>
       rw [hp] at HH
       have HQ : Hid (markN s marksL = markN s (marksL.drop 2)) := Lib.hid (HS.out.trans (if_neg (by rw [show marksL[1] = [60, 61] from rfl, hp]; decide)))
       clear hp
       go_wp2_with fail
       refine HH.out.mono ?_
       rintro e W2 ⟨rfl, rfl⟩
       go_wp2
       go_round
       case rel => exact ⟨2, by omega, by go_num, HQ⟩
       case measure => simp [intOf]
     ·have HH := Lib.hid (HP.out [62, 61])
      have ix : ∀ w, (Instr.index 168 (.agg #[.string (bs [60, 62]), .string (bs [60, 61]), .string (bs [62, 61]), .string (bs [60]), .string (bs [62]), .string (bs [61]), .string (bs [43]), .string (bs [45]), .string (bs [42]), .string (bs [44]), .string (bs [59]), .string (bs [58]), .string (bs [46])]) (.int .i64 2)).run Tryz.prog w = .ok (.string (bs [62, 61])) w := fun _ => by kernel_rfl
      have hs1 := hst 2 (by decide)
      rw [← hno.out] at hs1
      have HS := Lib.hid hs1
      clear hst hs1 hno
      cases hp : Lib.hasPrefix s [62, 61] with
      | true =>
       rw [hp] at HH
       have HQ : Hid (R = (4, 2)) := Lib.hid (by rw [HX.out, HS.out]; exact congrArg (Prod.mk 4) (if_pos hp))
       clear hp
       go_wp2_with fail
       refine HH.out.mono ?_
       rintro e W2 ⟨rfl, rfl⟩
       go_wp2
       go_ret2
       exact ⟨by rw [HQ.out]; rfl, rfl⟩
      | false =>
       rw [hp] at HH
       have HQ : Hid (markN s marksL = markN s (marksL.drop 3)) := Lib.hid (HS.out.trans (if_neg (by rw [show marksL[2] = [62, 61] from rfl, hp]; decide)))
       clear hp
       go_wp2_with fail
       refine HH.out.mono ?_
       rintro e W2 ⟨rfl, rfl⟩
       go_wp2
       go_round
       case rel => exact ⟨3, by omega, by go_num, HQ⟩
       case measure => simp [intOf]
     ·have HH := Lib.hid (HP.out [60])
      have ix : ∀ w, (Instr.index 168 (.agg #[.string (bs [60, 62]), .string (bs [60, 61]), .string (bs [62, 61]), .string (bs [60]), .string (bs [62]), .string (bs [61]), .string (bs [43]), .string (bs [45]), .string (bs [42]), .string (bs [44]), .string (bs [59]), .string (bs [58]), .string (bs [46])]) (.int .i64 3)).run Tryz.prog w = .ok (.string (bs [60])) w := fun _ => by kernel_rfl
      have hs1 := hst 3 (by decide)
      rw [← hno.out] at hs1
      have HS := Lib.hid hs1
      clear hst hs1 hno
      cases hp : Lib.hasPrefix s [60] with
      | true =>
       rw [hp] at HH
       have HQ : Hid (R = (4, 1)) := Lib.hid (by rw [HX.out, HS.out]; exact congrArg (Prod.mk 4) (if_pos hp))
       clear hp
       go_wp2_with fail
       refine HH.out.mono ?_
       rintro e W2 ⟨rfl, rfl⟩
       go_wp2
       go_ret2
       exact ⟨by rw [HQ.out]; rfl, rfl⟩
      | false =>
       rw [hp] at HH
       have HQ : Hid (markN s marksL = markN s (marksL.drop 4)) := Lib.hid (HS.out.trans (if_neg (by rw [show marksL[3] = [60] from rfl, hp]; decide)))
       clear hp
       go_wp2_with fail
       refine HH.out.mono ?_
       rintro e W2 ⟨rfl, rfl⟩
       go_wp2
       go_round
       case rel => exact ⟨4, by omega, by go_num, HQ⟩
       case measure => simp [intOf]
     ·have HH := Lib.hid (HP.out [62])
      have ix : ∀ w, (Instr.index 168 (.agg #[.string (bs [60, 62]), .string (bs [60, 61]), .string (bs [62, 61]), .string (bs [60]), .string (bs [62]), .string (bs [61]), .string (bs [43]), .string (bs [45]), .string (bs [42]), .string (bs [44]), .string (bs [59]), .string (bs [58]), .string (bs [46])]) (.int .i64 4)).run Tryz.prog w = .ok (.string (bs [62])) w := fun _ => by kernel_rfl
      have hs1 := hst 4 (by decide)
      rw [← hno.out] at hs1
      have HS := Lib.hid hs1
      clear hst hs1 hno
      cases hp : Lib.hasPrefix s [62] with
      | true =>
       rw [hp] at HH
       have HQ : Hid (R = (4, 1)) := Lib.hid (by rw [HX.out, HS.out]; exact congrArg (Prod.mk 4) (if_pos hp))
       clear hp
       go_wp2_with fail
       refine HH.out.mono ?_
       rintro e W2 ⟨rfl, rfl⟩
       go_wp2
       go_ret2
       exact ⟨by rw [HQ.out]; rfl, rfl⟩
      | false =>
       rw [hp] at HH
       have HQ : Hid (markN s marksL = markN s (marksL.drop 5)) := Lib.hid (HS.out.trans (if_neg (by rw [show marksL[4] = [62] from rfl, hp]; decide)))
       clear hp
       go_wp2_with fail
       refine HH.out.mono ?_
       rintro e W2 ⟨rfl, rfl⟩
       go_wp2
       go_round
       case rel => exact ⟨5, by omega, by go_num, HQ⟩
       case measure => simp [intOf]
     ·have HH := Lib.hid (HP.out [61])
      have ix : ∀ w, (Instr.index 168 (.agg #[.string (bs [60, 62]), .string (bs [60, 61]), .string (bs [62, 61]), .string (bs [60]), .string (bs [62]), .string (bs [61]), .string (bs [43]), .string (bs [45]), .string (bs [42]), .string (bs [44]), .string (bs [59]), .string (bs [58]), .string (bs [46])]) (.int .i64 5)).run Tryz.prog w = .ok (.string (bs [61])) w := fun _ => by kernel_rfl
      have hs1 := hst 5 (by decide)
      rw [← hno.out] at hs1
      have HS := Lib.hid hs1
      clear hst hs1 hno
      cases hp : Lib.hasPrefix s [61] with
      | true =>
       rw [hp] at HH
       have HQ : Hid (R = (4, 1)) := Lib.hid (by rw [HX.out, HS.out]; exact congrArg (Prod.mk 4) (if_pos hp))
       clear hp
       go_wp2_with fail
       refine HH.out.mono ?_
       rintro e W2 ⟨rfl, rfl⟩
       go_wp2
       go_ret2
       exact ⟨by rw [HQ.out]; rfl, rfl⟩
      | false =>
       rw [hp] at HH
       have HQ : Hid (markN s marksL = markN s (marksL.drop 6)) := Lib.hid (HS.out.trans (if_neg (by rw [show marksL[5] = [61] from rfl, hp]; decide)))
       clear hp
       go_wp2_with fail
       refine HH.out.mono ?_
       rintro e W2 ⟨rfl, rfl⟩
       go_wp2
       go_round
       case rel => exact ⟨6, by omega, by go_num, HQ⟩
       case measure => simp [intOf]
     ·have HH := Lib.hid (HP.out [43])
      have ix : ∀ w, (Instr.index 168 (.agg #[.string (bs [60, 62]), .string (bs [60, 61]), .string (bs [62, 61]), .string (bs [60]), .string (bs [62]), .string (bs [61]), .string (bs [43]), .string (bs [45]), .string (bs [42]), .string (bs [44]), .string (bs [59]), .string (bs [58]), .string (bs [46])]) (.int .i64 6)).run Tryz.prog w = .ok (.string (bs [43])) w := fun _ => by kernel_rfl
      have hs1 := hst 6 (by decide)
      rw [← hno.out] at hs1
      have HS := Lib.hid hs1
      clear hst hs1 hno
      cases hp : Lib.hasPrefix s [43] with
      | true =>
       rw [hp] at HH
       have HQ : Hid (R = (4, 1)) := Lib.hid (by rw [HX.out, HS.out]; exact congrArg (Prod.mk 4) (if_pos hp))
       clear hp
       go_wp2_with fail
       refine HH.out.mono ?_
       rintro e W2 ⟨rfl, rfl⟩
       go_wp2
       go_ret2
       exact ⟨by rw [HQ.out]; rfl, rfl⟩
      | false =>
       rw [hp] at HH
       have HQ : Hid (markN s marksL = markN s (marksL.drop 7)) := Lib.hid (HS.out.trans (if_neg (by rw [show marksL[6] = [43] from rfl, hp]; decide)))
       clear hp
       go_wp2_with fail
       refine HH.out.mono ?_
       rintro e W2 ⟨rfl, rfl⟩
       go_wp2
       go_round
       case rel => exact ⟨7, by omega, by go_num, HQ⟩
       case measure => simp [intOf]
     ·have HH := Lib.hid (HP.out [45])
      have ix : ∀ w, (Instr.index 168 (.agg #[.string (bs [60, 62]), .string (bs [60, 61]), .string (bs [62, 61]), .string (bs [60]), .string (bs [62]), .string (bs [61]), .string (bs [43]), .string (bs [45]), .string (bs [42]), .string (bs [44]), .string (bs [59]), .string (bs [58]), .string (bs [46])]) (.int .i64 7)).run Tryz.prog w = .ok (.string (bs [45])) w := fun _ => by kernel_rfl
      have hs1 := hst 7 (by decide)
      rw [← hno.out] at hs1
      have HS := Lib.hid hs1
      clear hst hs1 hno
      cases hp : Lib.hasPrefix s [45] with
      | true =>
       rw [hp] at HH
       have HQ : Hid (R = (4, 1)) := Lib.hid (by rw [HX.out, HS.out]; exact congrArg (Prod.mk 4) (if_pos hp))
       clear hp
       go_wp2_with fail
       refine HH.out.mono ?_
       rintro e W2 ⟨rfl, rfl⟩
       go_wp2
       go_ret2
       exact ⟨by rw [HQ.out]; rfl, rfl⟩
      | false =>
       rw [hp] at HH
       have HQ : Hid (markN s marksL = markN s (marksL.drop 8)) := Lib.hid (HS.out.trans (if_neg (by rw [show marksL[7] = [45] from rfl, hp]; decide)))
       clear hp
       go_wp2_with fail
       refine HH.out.mono ?_
       rintro e W2 ⟨rfl, rfl⟩
       go_wp2
       go_round
       case rel => exact ⟨8, by omega, by go_num, HQ⟩
       case measure => simp [intOf]
     ·have HH := Lib.hid (HP.out [42])
      have ix : ∀ w, (Instr.index 168 (.agg #[.string (bs [60, 62]), .string (bs [60, 61]), .string (bs [62, 61]), .string (bs [60]), .string (bs [62]), .string (bs [61]), .string (bs [43]), .string (bs [45]), .string (bs [42]), .string (bs [44]), .string (bs [59]), .string (bs [58]), .string (bs [46])]) (.int .i64 8)).run Tryz.prog w = .ok (.string (bs [42])) w := fun _ => by kernel_rfl
      have hs1 := hst 8 (by decide)
      rw [← hno.out] at hs1
      have HS := Lib.hid hs1
      clear hst hs1 hno
      cases hp : Lib.hasPrefix s [42] with
      | true =>
       rw [hp] at HH
       have HQ : Hid (R = (4, 1)) := Lib.hid (by rw [HX.out, HS.out]; exact congrArg (Prod.mk 4) (if_pos hp))
       clear hp
       go_wp2_with fail
       refine HH.out.mono ?_
       rintro e W2 ⟨rfl, rfl⟩
       go_wp2
       go_ret2
       exact ⟨by rw [HQ.out]; rfl, rfl⟩
      | false =>
       rw [hp] at HH
       have HQ : Hid (markN s marksL = markN s (marksL.drop 9)) := Lib.hid (HS.out.trans (if_neg (by rw [show marksL[8] = [42] from rfl, hp]; decide)))
       clear hp
       go_wp2_with fail
       refine HH.out.mono ?_
       rintro e W2 ⟨rfl, rfl⟩
       go_wp2
       go_round
       case rel => exact ⟨9, by omega, by go_num, HQ⟩
       case measure => simp [intOf]
     ·have HH := Lib.hid (HP.out [44])
      have ix : ∀ w, (Instr.index 168 (.agg #[.string (bs [60, 62]), .string (bs [60, 61]), .string (bs [62, 61]), .string (bs [60]), .string (bs [62]), .string (bs [61]), .string (bs [43]), .string (bs [45]), .string (bs [42]), .string (bs [44]), .string (bs [59]), .string (bs [58]), .string (bs [46])]) (.int .i64 9)).run Tryz.prog w = .ok (.string (bs [44])) w := fun _ => by kernel_rfl
      have hs1 := hst 9 (by decide)
      rw [← hno.out] at hs1
      have HS := Lib.hid hs1
      clear hst hs1 hno
      cases hp : Lib.hasPrefix s [44] with
      | true =>
       rw [hp] at HH
       have HQ : Hid (R = (4, 1)) := Lib.hid (by rw [HX.out, HS.out]; exact congrArg (Prod.mk 4) (if_pos hp))
       clear hp
       go_wp2_with fail
       refine HH.out.mono ?_
       rintro e W2 ⟨rfl, rfl⟩
       go_wp2
       go_ret2
       exact ⟨by rw [HQ.out]; rfl, rfl⟩
      | false =>
       rw [hp] at HH
       have HQ : Hid (markN s marksL = markN s (marksL.drop 10)) := Lib.hid (HS.out.trans (if_neg (by rw [show marksL[9] = [44] from rfl, hp]; decide)))
       clear hp
       go_wp2_with fail
       refine HH.out.mono ?_
       rintro e W2 ⟨rfl, rfl⟩
       go_wp2
       go_round
       case rel => exact ⟨10, by omega, by go_num, HQ⟩
       case measure => simp [intOf]
     ·have HH := Lib.hid (HP.out [59])
      have ix : ∀ w, (Instr.index 168 (.agg #[.string (bs [60, 62]), .string (bs [60, 61]), .string (bs [62, 61]), .string (bs [60]), .string (bs [62]), .string (bs [61]), .string (bs [43]), .string (bs [45]), .string (bs [42]), .string (bs [44]), .string (bs [59]), .string (bs [58]), .string (bs [46])]) (.int .i64 10)).run Tryz.prog w = .ok (.string (bs [59])) w := fun _ => by kernel_rfl
      have hs1 := hst 10 (by decide)
      rw [← hno.out] at hs1
      have HS := Lib.hid hs1
      clear hst hs1 hno
      cases hp : Lib.hasPrefix s [59] with
      | true =>
       rw [hp] at HH
       have HQ : Hid (R = (4, 1)) := Lib.hid (by rw [HX.out, HS.out]; exact congrArg (Prod.mk 4) (if_pos hp))
       clear hp
       go_wp2_with fail
       refine HH.out.mono ?_
       rintro e W2 ⟨rfl, rfl⟩
       go_wp2
       go_ret2
       exact ⟨by rw [HQ.out]; rfl, rfl⟩
      | false =>
       rw [hp] at HH
       have HQ : Hid (markN s marksL = markN s (marksL.drop 11)) := Lib.hid (HS.out.trans (if_neg (by rw [show marksL[10] = [59] from rfl, hp]; decide)))
       clear hp
       go_wp2_with fail
       refine HH.out.mono ?_
       rintro e W2 ⟨rfl, rfl⟩
       go_wp2
       go_round
       case rel => exact ⟨11, by omega, by go_num, HQ⟩
       case measure => simp [intOf]
     ·have HH := Lib.hid (HP.out [58])
      have ix : ∀ w, (Instr.index 168 (.agg #[.string (bs [60, 62]), .string (bs [60, 61]), .string (bs [62, 61]), .string (bs [60]), .string (bs [62]), .string (bs [61]), .string (bs [43]), .string (bs [45]), .string (bs [42]), .string (bs [44]), .string (bs [59]), .string (bs [58]), .string (bs [46])]) (.int .i64 11)).run Tryz.prog w = .ok (.string (bs [58])) w := fun _ => by kernel_rfl
      have hs1 := hst 11 (by decide)
      rw [← hno.out] at hs1
      have HS := Lib.hid hs1
      clear hst hs1 hno
      cases hp : Lib.hasPrefix s [58] with
      | true =>
       rw [hp] at HH
       have HQ : Hid (R = (4, 1)) := Lib.hid (by rw [HX.out, HS.out]; exact congrArg (Prod.mk 4) (if_pos hp))
       clear hp
       go_wp2_with fail
       refine HH.out.mono ?_
       rintro e W2 ⟨rfl, rfl⟩
       go_wp2
       go_ret2
       exact ⟨by rw [HQ.out]; rfl, rfl⟩
      | false =>
       rw [hp] at HH
       have HQ : Hid (markN s marksL = markN s (marksL.drop 12)) := Lib.hid (HS.out.trans (if_neg (by rw [show marksL[11] = [58] from rfl, hp]; decide)))
       clear hp
       go_wp2_with fail
       refine HH.out.mono ?_
       rintro e W2 ⟨rfl, rfl⟩
       go_wp2
       go_round
       case rel => exact ⟨12, by omega, by go_num, HQ⟩
       case measure => simp [intOf]
     ·have HH := Lib.hid (HP.out [46])
      have ix : ∀ w, (Instr.index 168 (.agg #[.string (bs [60, 62]), .string (bs [60, 61]), .string (bs [62, 61]), .string (bs [60]), .string (bs [62]), .string (bs [61]), .string (bs [43]), .string (bs [45]), .string (bs [42]), .string (bs [44]), .string (bs [59]), .string (bs [58]), .string (bs [46])]) (.int .i64 12)).run Tryz.prog w = .ok (.string (bs [46])) w := fun _ => by kernel_rfl
      have hs1 := hst 12 (by decide)
      rw [← hno.out] at hs1
      have HS := Lib.hid hs1
      clear hst hs1 hno
      cases hp : Lib.hasPrefix s [46] with
      | true =>
       rw [hp] at HH
       have HQ : Hid (R = (4, 1)) := Lib.hid (by rw [HX.out, HS.out]; exact congrArg (Prod.mk 4) (if_pos hp))
       clear hp
       go_wp2_with fail
       refine HH.out.mono ?_
       rintro e W2 ⟨rfl, rfl⟩
       go_wp2
       go_ret2
       exact ⟨by rw [HQ.out]; rfl, rfl⟩
      | false =>
       rw [hp] at HH
       have HQ : Hid (markN s marksL = markN s (marksL.drop 13)) := Lib.hid (HS.out.trans (if_neg (by rw [show marksL[12] = [46] from rfl, hp]; decide)))
       clear hp
       go_wp2_with fail
       refine HH.out.mono ?_
       rintro e W2 ⟨rfl, rfl⟩
       go_wp2
       go_round
       case rel => exact ⟨13, by omega, by go_num, HQ⟩
       case measure => simp [intOf]
end Go.Proofs.YtnjjajanfedjiaaGreatDoor
