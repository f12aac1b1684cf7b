/- The parser's flow. Parse's deferred closure. Parse. -/
import Derived.Test.YtnjjajanfedjiaaGreatDoorFrdM13
import Derived.Deep.CutBlock
import Derived.Test.YtnjjajanfedjiaaGreatDoorFrdM24
import Derived.Defers
import Derived.Recover
set_option linter.unusedSimpArgs false
set_option linter.unusedVariables false
namespace Go.Proofs.YtnjjajanfedjiaaGreatDoor
open Go.RowKit Go.BigFrame
attribute [local go_sem] bs_size bs_extract bs_append bs_toList
theorem iinf : (Tryz.prog.info? 63).map (fun i => (i.zero, i.size, i.bytes)) = some (some (.agg #[.int .i64 0, .string ⟨#[]⟩, .slice none 0 0]), 3, 48) := by kernel_rfl
theorem jinf : (Tryz.prog.info? 45).map (fun i => (i.zero, i.size, i.bytes)) = some (some (.agg #[.int .i64 0, .int .i64 0, .slice none 0 0, .slice none 0 0, .slice none 0 0, .string ⟨#[]⟩, .string ⟨#[]⟩, .int .i64 0, .int .i64 0, .string ⟨#[]⟩, .string ⟨#[]⟩, .int .i64 0, .int .i64 0, .string ⟨#[]⟩, .int .i64 0]), 15, 208) := by kernel_rfl
theorem pinf : (Tryz.prog.info? 83).map (fun i => (i.zero, i.size, i.bytes)) = some (some (.agg #[.int .i64 0, .string ⟨#[]⟩, .string ⟨#[]⟩]), 3, 40) := by kernel_rfl
set_option maxRecDepth 100000 in
set_option maxHeartbeats 8000000 in
theorem flow_any {l : List Tk} {b lo : Nat} (w : World) (hE : FB w lo) (hlo : lo ≤ b) (h : Ps w b l) (hll : l.length ≤ 1000000) :
  Calls Tryz.prog 36 #[.pointer (some ⟨b, 0, none⟩)] w fun e w' => FlowOut (flowP l) b w.heap.size e w' ∧ Keeps [b] w w' := by
 obtain ⟨i0, hi, hz0, hz1, hz2⟩ := info_parts iinf
 obtain ⟨i1, hj, hy0, hy1, hy2⟩ := info_parts jinf
 obtain ⟨i2, hp, hx0, hx1, hx2⟩ := info_parts pinf
 obtain ⟨R, hR⟩ : ∃ R, flowP l = R := ⟨_, rfl⟩
 rw [hR]
 rw [flowP_eq] at hR
 have HR := Lib.hid hR
 have HLL := Lib.hid hll
 have HE := Lib.hid hE
 have HP0 := Lib.hid h
 have hmf : ∀ (fn : Fn) (first cap : Array Value) (w : World), (Instr.makeFunc fn first cap).run Tryz.prog w = .ok (.func fn first cap) w := fun _ _ _ _ => rfl
 clear hR hll hE h
 go_enter Tryz.func36, Tryz.ntmps36
 go_upto_block 0 with (fail)
 obtain ⟨W1, hW1⟩ : ∃ x, w.alloc (.cells #[.pointer (some ⟨b, 0, none⟩)] 92) = x := ⟨_, rfl⟩
 have z1 : W1.heap.size = w.heap.size + 1 := by rw [← hW1]; exact fsz _ _
 obtain ⟨W2, hW2⟩ : ∃ x, W1.alloc (.cells #[.slice none 0 0, .slice none 0 0, .slice none 0 0] 26) = x := ⟨_, rfl⟩
 have z2 : W2.heap.size = w.heap.size + 1 + 1 := by rw [← hW2, fsz, z1]
 obtain ⟨y0, hW3⟩ : ∃ x, W2.alloc (.cells #[.slice none 0 0, .slice none 0 0, .slice none 0 0] 26) = x := ⟨_, rfl⟩
 have k1 : Keeps [] w W1 := by rw [← hW1]; exact (Keeps.refl _ _).alloc _
 have k2 : Keeps [] W1 W2 := by rw [← hW2]; exact (Keeps.refl _ _).alloc _
 have k3 : Keeps [] W2 y0 := by rw [← hW3]; exact (Keeps.refl _ _).alloc _
 have b1 : Blk W1 w.heap.size 92 #[.pointer (some ⟨b, 0, none⟩)] := by rw [← hW1]; exact Blk.new _ _ _
 have b2 : Blk W2 (w.heap.size + 1) 26 #[.slice none 0 0, .slice none 0 0, .slice none 0 0] := by rw [← hW2, ← z1]; exact Blk.new _ _ _
 have b3 : Blk y0 (w.heap.size + 1 + 1) 26 #[.slice none 0 0, .slice none 0 0, .slice none 0 0] := by rw [← hW3, ← z2]; exact Blk.new _ _ _
 rw [hW1, hW2, hW3]
 obtain ⟨fb, hfb⟩ : ∃ x, w.heap.size + 1 + 1 = x := ⟨_, rfl⟩
 rw [hfb] at b3 ⊢
 obtain ⟨rb, hrb⟩ : ∃ x, w.heap.size + 1 = x := ⟨_, rfl⟩
 rw [hrb] at b2 ⊢
 have HS : Hid (FlSt y0 w.heap.size w.heap.size rb fb b (.slice none 0 0) (.slice none 0 0) (.slice none 0 0) [] [] []) := Lib.hid
  ⟨(b1.keep k2 (by simp)).keep k3 (by simp), b2.keep k3 (by simp), b3, by omega, by omega, LstIs.nil, LstIs.nil, LstIs.nil⟩
 have HK : Hid (Keeps [b] w y0) := Lib.hid (k1.trans (k2.trans k3)).of_nil
 have HP : Hid (Ps y0 b l) := Lib.hid (((HP0.out.keep k1).keep k2).keep k3)
 have HRB : Hid (w.heap.size ≤ rb) := Lib.hid (by omega)
 clear hfb hrb b1 b2 b3 k1 k2 k3 z1 z2 hW1 hW2 hW3 HP0
 go_upto_block 0 with (fail)
 go_cut [] (fun wx => ∃ (v0 : Value) (ins : List In) (q : List Tk), Hid (flow1 (ins, q) = R) ∧ Hid (q.length ≤ l.length) ∧ Hid (FlSt wx w.heap.size w.heap.size rb fb b v0 (.slice none 0 0) (.slice none 0 0) ins [] []) ∧ Hid (Ps wx b q) ∧ Hid (Keeps [b] w wx))
 case first =>
  go_wp2_with fail
  go_loopw [] (fun wx => ∃ (v0 : Value) (ins : List In) (q : List Tk) (n : Nat), Hid (manyP [105, 110] inputP n q ins >>= flow1 = R) ∧ q.length ≤ n ∧ Hid (q.length ≤ l.length) ∧ ins.length ≤ 16 ∧ Hid (FlSt wx w.heap.size w.heap.size rb fb b v0 (.slice none 0 0) (.slice none 0 0) ins [] []) ∧ Hid (Ps wx b q) ∧ Hid (Keeps [b] w wx)) (fun wx => leftT b wx)
  case atStart => exact ⟨_, [], l, l.length, HR, Nat.le_refl _, Lib.hid (Nat.le_refl _), by simp, HS, HP, HK⟩
  case round =>
   clear HS HP HK HR
   obtain ⟨v0, ins, q, n, HR, hqn, HQL, hcnt, HS, HP, HK⟩ := hrel
   obtain ⟨y, rfl⟩ : ∃ y : World, y = wr := ⟨_, rfl⟩
   have hq1 := HP.out.endT.pos
   have hn0 : 0 < n := by omega
   have HN0 := Lib.hid hn0
   have HQN := Lib.hid hqn
   have HQ1 := Lib.hid hq1
   have p0 : y.cell? ⟨w.heap.size, 0, none⟩ = some (.pointer (some ⟨b, 0, none⟩)) := HS.out.pbk.cell 0
   have lp := HS.out.pbk.lt
   have lf := HS.out.fbk.lt
   obtain ⟨us, hul, how, hel⟩ := HS.out.i0
   obtain ⟨A, cv, rfl, -⟩ := own_form how
   have HOW := Lib.hid how
   have HUL := Lib.hid hul
   have HEL := Lib.hid hel
   have HKY := HK
   have f0 : y.cell? ⟨fb, 0, none⟩ = some (.slice A ins.length cv) := HS.out.fbk.cell 0
   have HM := Lib.hid HP.out.left
   have HT := see_any [105, 110] y HP.out
   clear how hul hel hn0 hqn hq1
   cases hs : seeP [105, 110] q with
   | false =>
    rw [hs] at HT
    have HT1 := Lib.hid HT
    have HRR : Hid (flow1 (ins, q) = R) := Lib.hid (by rw [← HR.out, many_no hs]; rfl)
    clear HT hs
    go_wp2_with fail
    refine HT1.out.mono ?_
    rintro ev w3 ⟨rfl, rfl⟩
    go_wp2
    go_meet
    exact ⟨_, ins, q, HRR, HQL, HS, HP, HK⟩
   | true =>
    rw [hs] at HT
    have HT1 := Lib.hid HT
    have HSE := Lib.hid hs
    clear HT hs
    by_cases h16 : ins.length = 16
    ·have HX : Hid (R = .error (4, (hdT q).at_)) := Lib.hid (by rw [← HR.out, many_full HSE.out HN0.out h16]; rfl)
     have HF := Lib.hid (full_yes ins.length HS.out.pbk HP.out h16)
     clear h16
     go_wp2_with fail
     refine HT1.out.mono ?_
     rintro ev w3 ⟨rfl, rfl⟩
     go_wp2_with fail
     refine HF.out.mono ?_
     rintro ev w9 ⟨⟨gi, rfl, hb⟩, hk9⟩
     exact ⟨rfl, by rw [HX.out]; exact ⟨gi, rfl, hb⟩, HK.out.trans hk9.of_nil⟩
    have HF := Lib.hid (full_no ins.length HS.out.pbk HP.out h16)
    have fS : y.cell? ⟨fb, 0, none⟩ = some (.slice A ins.length cv) ∧ y.frozen? ⟨fb, 0, none⟩ = false := ⟨f0, HS.out.fbk.frozen 0⟩
    have hbd := Lib.hid (show ins.length + 1 ≤ maxLen ∧ (ins.length + 1) * 48 ≤ 140737488355328 by simp only [maxLen]; omega)
    have HNE : Hid (fb ∉ [b]) := Lib.hid (by have := HS.out.fbk.ty.ne HP.out.ty (by decide); simpa using this)
    rcases hS : inputP q with x | ⟨x, r⟩
    ·have HX : Hid (R = .error x) := Lib.hid (by rw [← HR.out, many_err HSE.out HN0.out h16 hS]; rfl)
     have HC : Hid (∀ W, Keeps [] y W → Calls Tryz.prog 75 #[.pointer (some ⟨b, 0, none⟩)] W fun e w' => Thrown x e w' ∧ Keeps [b] W w') := Lib.hid (fun W z => by
      have h := input_any W (HP.out.keep z) (Nat.le_trans HQL.out HLL.out)
      rw [hS] at h
      exact h)
     clear hS h16
     go_wp2_with fail
     refine HT1.out.mono ?_
     rintro ev w3 ⟨rfl, rfl⟩
     go_wp2_with fail
     refine HF.out.mono ?_
     rintro ev w4 ⟨rfl, rfl⟩
     go_wp2_with fail
     go_region_law (first | (refine step_append_lies _ (by rfl) _ _ _ (by rfl) w.heap.size 63 i0 _ 3 48 Tryz.underlying22 hi hz0 hz1 hz2 rfl (by decide) (.slice A ins.length cv) ins.length us.flatten (by rfl) ((own_far' HOW.out hk6.undrew (fun z hz => ⟨94, by rw [List.mem_singleton.1 hz]; exact HP.out.ty, by decide⟩)).alloc _) ⟨w6.heap.size, 0, none⟩ 1 1 ([.int .i64 0, .string (bs []), .slice none 0 0]) (by rfl) rfl (World.news_of_block (heap_alloc_new _ _)) (by simp [Value.oneCell']) (by decide) hbd.out.1 hbd.out.2 (by have := HKY.out.size; have := hk6.size; have h9 : y.drew.heap.size = y.heap.size := rfl; simp; omega) _ rfl ?_; intro gw cap w7 hown7 hgrow7 hat7 hlt7; obtain ⟨fS7, fZ7⟩ := fld_grown hgrow7 (fld_alloc ⟨fS6, fZ6⟩ _) (fun e => (own_ty HOW.out fb e).ne HS.out.fbk.ty (by decide) rfl)) | (go_simp; go_at_call 75; refine (HC.out _ (Keeps.refl [] y).drew).mono ?_; rintro e w6 ⟨⟨gi, rfl, hb⟩, hk6⟩; obtain ⟨fS6, fZ6⟩ := fld_keeps hk6 fS HNE.out; have gl6 : fb < w6.heap.size := World.block_lt_of_cell? w6 ⟨fb, 0, none⟩ fS6; dsimp only; (go_loud (refine fake_way ‹∀ (a : Act) (w : World), wpAny _ _ _ _ _ _ a w → _› (some 17) (.agg #[.int .i64 0, .string (bs []), .slice none 0 0]) ⟨rfl, by rw [HX.out]; exact ⟨gi, rfl, hb⟩, HK.out.trans hk6.undrew⟩ (fun hF => ?_)))))
     all_goals exact hF.out.elim
    ·have HRR : Hid (manyP [105, 110] inputP (n - 1) r (ins ++ [x]) >>= flow1 = R) := Lib.hid (by rw [← HR.out, many_ok HSE.out HN0.out h16 hS])
     have HC : Hid (∀ W, Keeps [] y W → Calls Tryz.prog 75 #[.pointer (some ⟨b, 0, none⟩)] W fun e w' => (∃ v, e = .returned (.agg #[.int .i64 x.at_, .string (bs x.name), v]) ∧ w'.ownsRow y.heap.size 61 2 v x.cols.length (csCells x.cols) ∧ Ps w' b r) ∧ Keeps [b] W w') := Lib.hid (fun W z => by
      have h := input_any W (HP.out.keep z) (Nat.le_trans HQL.out HLL.out)
      rw [hS] at h
      refine h.mono (fun e w' h => ⟨?_, h.2⟩)
      have h2 := h.1
      simp only [InOut] at h2
      obtain ⟨v, h3, h4, h5⟩ := h2
      exact ⟨v, h3, own_low h4 z.size, h5⟩)
     have HLE := Lib.hid (inputP_le HQ1.out hS)
     have HL1 : Hid ((ins ++ [x]).length ≤ 16) := Lib.hid (by simp; omega)
     clear hS h16
     go_wp2_with fail
     refine HT1.out.mono ?_
     rintro ev w3 ⟨rfl, rfl⟩
     go_wp2_with fail
     refine HF.out.mono ?_
     rintro ev w4 ⟨rfl, rfl⟩
     go_wp2_with fail
     go_region_law (first | (refine step_append_lies _ (by rfl) _ _ _ (by rfl) w.heap.size 63 i0 _ 3 48 Tryz.underlying22 hi hz0 hz1 hz2 rfl (by decide) (.slice A ins.length cv) ins.length us.flatten (by rfl) ((own_far' HOW.out hk6.undrew (fun z hz => ⟨94, by rw [List.mem_singleton.1 hz]; exact HP.out.ty, by decide⟩)).alloc _) ⟨w6.heap.size, 0, none⟩ 1 1 ([.int .i64 x.at_, .string (bs x.name), .slice Av x.cols.length cvv]) (by rfl) rfl (World.news_of_block (heap_alloc_new _ _)) (by simp [Value.oneCell']) (by decide) hbd.out.1 hbd.out.2 (by have := HKY.out.size; have := hk6.size; have h9 : y.drew.heap.size = y.heap.size := rfl; simp; omega) _ rfl ?_; intro gw cap w7 hown7 hgrow7 hat7 hlt7; obtain ⟨fS7, fZ7⟩ := fld_grown hgrow7 (fld_alloc ⟨fS6, fZ6⟩ _) (fun e => (own_ty HOW.out fb e).ne HS.out.fbk.ty (by decide) rfl)) | (go_simp; go_at_call 75; refine (HC.out _ (Keeps.refl [] y).drew).mono ?_; rintro e w6 ⟨⟨v, rfl, hov, hp6⟩, hk6⟩; obtain ⟨Av, cvv, rfl, -⟩ := own_form hov; obtain ⟨fS6, fZ6⟩ := fld_keeps hk6 fS HNE.out; have gl6 : fb < w6.heap.size := World.block_lt_of_cell? w6 ⟨fb, 0, none⟩ fS6))
     all_goals
      have HS6 := HS.out.ps HP.out hk6.undrew
      have HO6 := (own_far' HOW.out hk6.undrew (fun z hz => ⟨94, by rw [List.mem_singleton.1 hz]; exact HP.out.ty, by decide⟩))
      have HEL6 := fun j h1 h2 => InEl.far (S := flTys) ⟨hk6.undrew, fun z hz => ⟨94, by rw [List.mem_singleton.1 hz]; exact HP.out.ty, by decide⟩⟩ (by decide) _ _ (HEL.out j h1 h2)
      have hr7 := own_ty HO6
      have HK6 := HK.out.trans hk6.undrew
      have HS7 := Lib.hid (FlSt.app0 HS6 HUL.out HO6 HEL6 ⟨_, rfl, own_low hov HKY.out.size⟩ hgrow7 hown7)
      have HP7 := Lib.hid (ps7 (k := 0) (u := .slice (some ⟨gw, 0, none⟩) (ins.length + 1) cap) HS6 hp6 hgrow7 hr7 (by decide) (by decide))
      have HK7 := Lib.hid (FlSt.keeps7 (k := 0) (u := .slice (some ⟨gw, 0, none⟩) (ins.length + 1) cap) HS6 HK6 hgrow7 (fun z hz => (HOW.out.lt z hz).1))
      clear HS6 HO6 HEL6 hr7 HK6
      go_wp2
      go_roundw
      case rel => exact ⟨_, ins ++ [x], r, n - 1, HRR, by have := HLE.out; have := HQN.out; omega, Lib.hid (by have := HLE.out; have := HQL.out; omega), HL1.out, HS7, HP7, HK7⟩
      case measure => rw [HP7.out.left, HM.out]; exact HLE.out
 case rest =>
  clear HS HP HK HR
  obtain ⟨v0, ins, q1, HR, HQL1, HS, HP, HK⟩ := hcut
  obtain ⟨y1, rfl⟩ : ∃ y : World, y = wc := ⟨_, rfl⟩
  go_upto_block 2 with (fail)
  go_cut [] (fun wx => ∃ (v1 : Value) (jobs : List Jb) (q : List Tk), Hid (flow2 ins (jobs, q) = R) ∧ Hid (q.length ≤ l.length) ∧ Hid (FlSt wx w.heap.size w.heap.size rb fb b v0 v1 (.slice none 0 0) ins jobs []) ∧ Hid (Ps wx b q) ∧ Hid (Keeps [b] w wx))
  case first =>
   go_wp2_with fail
   go_loopw [] (fun wx => ∃ (v1 : Value) (jobs : List Jb) (q : List Tk) (n : Nat), Hid (manyP [106, 111, 98] jobP n q jobs >>= flow2 ins = R) ∧ q.length ≤ n ∧ Hid (q.length ≤ l.length) ∧ jobs.length ≤ 16 ∧ Hid (FlSt wx w.heap.size w.heap.size rb fb b v0 v1 (.slice none 0 0) ins jobs []) ∧ Hid (Ps wx b q) ∧ Hid (Keeps [b] w wx)) (fun wx => leftT b wx)
   case atStart => exact ⟨_, [], q1, q1.length, HR, Nat.le_refl _, HQL1, by simp, HS, HP, HK⟩
   case round =>
    clear HS HP HK HR
    obtain ⟨v1, jobs, q, n, HR, hqn, HQL, hcnt, HS, HP, HK⟩ := hrel
    obtain ⟨y, rfl⟩ : ∃ y : World, y = wr := ⟨_, rfl⟩
    have hq1 := HP.out.endT.pos
    have hn0 : 0 < n := by omega
    have HN0 := Lib.hid hn0
    have HQN := Lib.hid hqn
    have HQ1 := Lib.hid hq1
    have p0 : y.cell? ⟨w.heap.size, 0, none⟩ = some (.pointer (some ⟨b, 0, none⟩)) := HS.out.pbk.cell 0
    have lp := HS.out.pbk.lt
    have lf := HS.out.fbk.lt
    obtain ⟨us, hul, how, hel⟩ := HS.out.i1
    obtain ⟨A, cv, rfl, -⟩ := own_form how
    have HOW := Lib.hid how
    have HUL := Lib.hid hul
    have HEL := Lib.hid hel
    have HKY := HK
    have f0 : y.cell? ⟨fb, 1, none⟩ = some (.slice A jobs.length cv) := HS.out.fbk.cell 1
    have HM := Lib.hid HP.out.left
    have HT := see_any [106, 111, 98] y HP.out
    clear how hul hel hn0 hqn hq1
    cases hs : seeP [106, 111, 98] q with
    | false =>
     rw [hs] at HT
     have HT1 := Lib.hid HT
     have HRR : Hid (flow2 ins (jobs, q) = R) := Lib.hid (by rw [← HR.out, many_no hs]; rfl)
     clear HT hs
     go_wp2_with fail
     refine HT1.out.mono ?_
     rintro ev w3 ⟨rfl, rfl⟩
     go_wp2
     go_meet
     exact ⟨_, jobs, q, HRR, HQL, HS, HP, HK⟩
    | true =>
     rw [hs] at HT
     have HT1 := Lib.hid HT
     have HSE := Lib.hid hs
     clear HT hs
     by_cases h16 : jobs.length = 16
     ·have HX : Hid (R = .error (4, (hdT q).at_)) := Lib.hid (by rw [← HR.out, many_full HSE.out HN0.out h16]; rfl)
      have HF := Lib.hid (full_yes jobs.length HS.out.pbk HP.out h16)
      clear h16
      go_wp2_with fail
      refine HT1.out.mono ?_
      rintro ev w3 ⟨rfl, rfl⟩
      go_wp2_with fail
      refine HF.out.mono ?_
      rintro ev w9 ⟨⟨gi, rfl, hb⟩, hk9⟩
      exact ⟨rfl, by rw [HX.out]; exact ⟨gi, rfl, hb⟩, HK.out.trans hk9.of_nil⟩
     have HF := Lib.hid (full_no jobs.length HS.out.pbk HP.out h16)
     have fS : y.cell? ⟨fb, 1, none⟩ = some (.slice A jobs.length cv) ∧ y.frozen? ⟨fb, 1, none⟩ = false := ⟨f0, HS.out.fbk.frozen 1⟩
     have hbd := Lib.hid (show jobs.length + 1 ≤ maxLen ∧ (jobs.length + 1) * 208 ≤ 140737488355328 by simp only [maxLen]; omega)
     have HNE : Hid (fb ∉ [b]) := Lib.hid (by have := HS.out.fbk.ty.ne HP.out.ty (by decide); simpa using this)
     rcases hS : jobP q with x | ⟨x, r⟩
     ·have HX : Hid (R = .error x) := Lib.hid (by rw [← HR.out, many_err HSE.out HN0.out h16 hS]; rfl)
      have HC : Hid (∀ W, Keeps [] y W → Calls Tryz.prog 76 #[.pointer (some ⟨b, 0, none⟩)] W fun e w' => Thrown x e w' ∧ Keeps [b] W w') := Lib.hid (fun W z => by
       have h := job_any W ((HE.out.one hlo HK.out).quiet z) hlo (HP.out.keep z) (Nat.le_trans HQL.out HLL.out)
       rw [hS] at h
       exact h)
      clear hS h16
      go_wp2_with fail
      refine HT1.out.mono ?_
      rintro ev w3 ⟨rfl, rfl⟩
      go_wp2_with fail
      refine HF.out.mono ?_
      rintro ev w4 ⟨rfl, rfl⟩
      go_wp2_with fail
      go_region_law (first | (refine step_append_lies _ (by rfl) _ _ _ (by rfl) w.heap.size 45 i1 _ 15 208 Tryz.underlying23 hj hy0 hy1 hy2 rfl (by decide) (.slice A jobs.length cv) jobs.length us.flatten (by rfl) ((own_far' HOW.out hk6.undrew (fun z hz => ⟨94, by rw [List.mem_singleton.1 hz]; exact HP.out.ty, by decide⟩)).alloc _) ⟨w6.heap.size, 0, none⟩ 1 1 ([.int .i64 0, .int .i64 0, .slice none 0 0, .slice none 0 0, .slice none 0 0, .string (bs []), .string (bs []), .int .i64 0, .int .i64 0, .string (bs []), .string (bs []), .int .i64 0, .int .i64 0, .string (bs []), .int .i64 0]) (by rfl) rfl (World.news_of_block (heap_alloc_new _ _)) (by simp [Value.oneCell']) (by decide) hbd.out.1 hbd.out.2 (by have := HKY.out.size; have := hk6.size; have h9 : y.drew.heap.size = y.heap.size := rfl; simp; omega) _ rfl ?_; intro gw cap w7 hown7 hgrow7 hat7 hlt7; obtain ⟨fS7, fZ7⟩ := fld_grown hgrow7 (fld_alloc ⟨fS6, fZ6⟩ _) (fun e => (own_ty HOW.out fb e).ne HS.out.fbk.ty (by decide) rfl)) | (go_simp; go_at_call 76; refine (HC.out _ (Keeps.refl [] y).drew).mono ?_; rintro e w6 ⟨⟨gi, rfl, hb⟩, hk6⟩; obtain ⟨fS6, fZ6⟩ := fld_keeps hk6 fS HNE.out; have gl6 : fb < w6.heap.size := World.block_lt_of_cell? w6 ⟨fb, 1, none⟩ fS6; dsimp only; (go_loud (refine fake_way ‹∀ (a : Act) (w : World), wpAny _ _ _ _ _ _ a w → _› (some 31) (.agg #[.int .i64 0, .int .i64 0, .slice none 0 0, .slice none 0 0, .slice none 0 0, .string (bs []), .string (bs []), .int .i64 0, .int .i64 0, .string (bs []), .string (bs []), .int .i64 0, .int .i64 0, .string (bs []), .int .i64 0]) ⟨rfl, by rw [HX.out]; exact ⟨gi, rfl, hb⟩, HK.out.trans hk6.undrew⟩ (fun hF => ?_)))))
      all_goals exact hF.out.elim
     ·have HRR : Hid (manyP [106, 111, 98] jobP (n - 1) r (jobs ++ [x]) >>= flow2 ins = R) := Lib.hid (by rw [← HR.out, many_ok HSE.out HN0.out h16 hS])
      have HC : Hid (∀ W, Keeps [] y W → Calls Tryz.prog 76 #[.pointer (some ⟨b, 0, none⟩)] W fun e w' => (∃ w2 w3 w4, e = .returned (.agg #[.int .i64 x.at_, .int .i64 x.code, w2, w3, w4, .string (bs x.op), .string (bs x.left.col), .int .i64 x.left.val.kind, .int .i64 x.left.val.num, .string (bs x.left.val.word), .string (bs x.right.col), .int .i64 x.right.val.kind, .int .i64 x.right.val.num, .string (bs x.right.val.word), .int .i64 x.retry]) ∧ JRows w' y.heap.size x w2 w3 w4 ∧ Ps w' b r) ∧ Keeps [b] W w') := Lib.hid (fun W z => by
       have h := job_any W ((HE.out.one hlo HK.out).quiet z) hlo (HP.out.keep z) (Nat.le_trans HQL.out HLL.out)
       rw [hS] at h
       refine h.mono (fun e w' h => ⟨?_, h.2⟩)
       have h2 := h.1
       simp only [JobOut] at h2
       obtain ⟨v2, v3, v4, h3, h4, h5⟩ := h2
       exact ⟨v2, v3, v4, h3, ⟨own_low h4.o2 z.size, own_low h4.o3 z.size, own_low h4.o4 z.size⟩, h5⟩)
      have HLE := Lib.hid (jobP_le HQ1.out hS)
      have HL1 : Hid ((jobs ++ [x]).length ≤ 16) := Lib.hid (by simp; omega)
      clear hS h16
      go_wp2_with fail
      refine HT1.out.mono ?_
      rintro ev w3 ⟨rfl, rfl⟩
      go_wp2_with fail
      refine HF.out.mono ?_
      rintro ev w4 ⟨rfl, rfl⟩
      go_wp2_with fail
      go_region_law (first | (refine step_append_lies _ (by rfl) _ _ _ (by rfl) w.heap.size 45 i1 _ 15 208 Tryz.underlying23 hj hy0 hy1 hy2 rfl (by decide) (.slice A jobs.length cv) jobs.length us.flatten (by rfl) ((own_far' HOW.out hk6.undrew (fun z hz => ⟨94, by rw [List.mem_singleton.1 hz]; exact HP.out.ty, by decide⟩)).alloc _) ⟨w6.heap.size, 0, none⟩ 1 1 ([.int .i64 x.at_, .int .i64 x.code, .slice A2 x.outs.length c2, .slice A3 x.ins.length c3, .slice A4 x.cols.length c4, .string (bs x.op), .string (bs x.left.col), .int .i64 x.left.val.kind, .int .i64 x.left.val.num, .string (bs x.left.val.word), .string (bs x.right.col), .int .i64 x.right.val.kind, .int .i64 x.right.val.num, .string (bs x.right.val.word), .int .i64 x.retry]) (by rfl) rfl (World.news_of_block (heap_alloc_new _ _)) (by simp [Value.oneCell']) (by decide) hbd.out.1 hbd.out.2 (by have := HKY.out.size; have := hk6.size; have h9 : y.drew.heap.size = y.heap.size := rfl; simp; omega) _ rfl ?_; intro gw cap w7 hown7 hgrow7 hat7 hlt7; obtain ⟨fS7, fZ7⟩ := fld_grown hgrow7 (fld_alloc ⟨fS6, fZ6⟩ _) (fun e => (own_ty HOW.out fb e).ne HS.out.fbk.ty (by decide) rfl)) | (go_simp; go_at_call 76; refine (HC.out _ (Keeps.refl [] y).drew).mono ?_; rintro e w6 ⟨⟨w2, w3, w4, rfl, hrows, hp6⟩, hk6⟩; obtain ⟨A2, c2, rfl, -⟩ := own_form hrows.o2; obtain ⟨A3, c3, rfl, -⟩ := own_form hrows.o3; obtain ⟨A4, c4, rfl, -⟩ := own_form hrows.o4; obtain ⟨fS6, fZ6⟩ := fld_keeps hk6 fS HNE.out; have gl6 : fb < w6.heap.size := World.block_lt_of_cell? w6 ⟨fb, 1, none⟩ fS6))
      all_goals
       have HS6 := HS.out.ps HP.out hk6.undrew
       have HO6 := (own_far' HOW.out hk6.undrew (fun z hz => ⟨94, by rw [List.mem_singleton.1 hz]; exact HP.out.ty, by decide⟩))
       have HEL6 := fun j h1 h2 => JbEl.far (S := flTys) ⟨hk6.undrew, fun z hz => ⟨94, by rw [List.mem_singleton.1 hz]; exact HP.out.ty, by decide⟩⟩ (by decide) _ _ (HEL.out j h1 h2)
       have hr7 := own_ty HO6
       have HK6 := HK.out.trans hk6.undrew
       have HS7 := Lib.hid (FlSt.app1 HS6 HUL.out HO6 HEL6 ⟨_, _, _, rfl, ⟨own_low hrows.o2 HKY.out.size, own_low hrows.o3 HKY.out.size, own_low hrows.o4 HKY.out.size⟩⟩ hgrow7 hown7)
       have HP7 := Lib.hid (ps7 (k := 1) (u := .slice (some ⟨gw, 0, none⟩) (jobs.length + 1) cap) HS6 hp6 hgrow7 hr7 (by decide) (by decide))
       have HK7 := Lib.hid (FlSt.keeps7 (k := 1) (u := .slice (some ⟨gw, 0, none⟩) (jobs.length + 1) cap) HS6 HK6 hgrow7 (fun z hz => (HOW.out.lt z hz).1))
       clear HS6 HO6 HEL6 hr7 HK6
       go_wp2
       go_roundw
       case rel => exact ⟨_, jobs ++ [x], r, n - 1, HRR, by have := HLE.out; have := HQN.out; omega, Lib.hid (by have := HLE.out; have := HQL.out; omega), HL1.out, HS7, HP7, HK7⟩
       case measure => rw [HP7.out.left, HM.out]; exact HLE.out
  case rest =>
   clear HS HP HK HR
   obtain ⟨v1, jobs, q2, HR, HQL2, HS, HP, HK⟩ := hcut
   obtain ⟨y2, rfl⟩ : ∃ y : World, y = wc := ⟨_, rfl⟩
   go_upto_block 4 with (fail)
   go_cut [] (fun wx => ∃ (v2 : Value) (outs : List Pb) (q : List Tk), Hid (flow3 ins jobs (outs, q) = R) ∧ Hid (FlSt wx w.heap.size w.heap.size rb fb b v0 v1 v2 ins jobs outs) ∧ Hid (Ps wx b q) ∧ Hid (Keeps [b] w wx))
   case first =>
    go_wp2_with fail
    go_loopw [] (fun wx => ∃ (v2 : Value) (outs : List Pb) (q : List Tk) (n : Nat), Hid (manyP [111, 117, 116] outP n q outs >>= flow3 ins jobs = R) ∧ q.length ≤ n ∧ Hid (q.length ≤ l.length) ∧ outs.length ≤ 16 ∧ Hid (FlSt wx w.heap.size w.heap.size rb fb b v0 v1 v2 ins jobs outs) ∧ Hid (Ps wx b q) ∧ Hid (Keeps [b] w wx)) (fun wx => leftT b wx)
    case atStart => exact ⟨_, [], q2, q2.length, HR, Nat.le_refl _, HQL2, by simp, HS, HP, HK⟩
    case round =>
     clear HS HP HK HR
     obtain ⟨v2, outs, q, n, HR, hqn, HQL, hcnt, HS, HP, HK⟩ := hrel
     obtain ⟨y, rfl⟩ : ∃ y : World, y = wr := ⟨_, rfl⟩
     have hq1 := HP.out.endT.pos
     have hn0 : 0 < n := by omega
     have HN0 := Lib.hid hn0
     have HQN := Lib.hid hqn
     have HQ1 := Lib.hid hq1
     have p0 : y.cell? ⟨w.heap.size, 0, none⟩ = some (.pointer (some ⟨b, 0, none⟩)) := HS.out.pbk.cell 0
     have lp := HS.out.pbk.lt
     have lf := HS.out.fbk.lt
     obtain ⟨us, hul, how, hel⟩ := HS.out.i2
     obtain ⟨A, cv, rfl, -⟩ := own_form how
     have HOW := Lib.hid how
     have HUL := Lib.hid hul
     have HEL := Lib.hid hel
     have f0 : y.cell? ⟨fb, 2, none⟩ = some (.slice A outs.length cv) := HS.out.fbk.cell 2
     have HM := Lib.hid HP.out.left
     have HT := see_any [111, 117, 116] y HP.out
     clear how hul hel hn0 hqn hq1
     cases hs : seeP [111, 117, 116] q with
     | false =>
      rw [hs] at HT
      have HT1 := Lib.hid HT
      have HRR : Hid (flow3 ins jobs (outs, q) = R) := Lib.hid (by rw [← HR.out, many_no hs]; rfl)
      clear HT hs
      go_wp2_with fail
      refine HT1.out.mono ?_
      rintro ev w3 ⟨rfl, rfl⟩
      go_wp2
      go_meet
      exact ⟨_, outs, q, HRR, HS, HP, HK⟩
     | true =>
      rw [hs] at HT
      have HT1 := Lib.hid HT
      have HSE := Lib.hid hs
      clear HT hs
      by_cases h16 : outs.length = 16
      ·have HX : Hid (R = .error (4, (hdT q).at_)) := Lib.hid (by rw [← HR.out, many_full HSE.out HN0.out h16]; rfl)
       have HF := Lib.hid (full_yes outs.length HS.out.pbk HP.out h16)
       clear h16
       go_wp2_with fail
       refine HT1.out.mono ?_
       rintro ev w3 ⟨rfl, rfl⟩
       go_wp2_with fail
       refine HF.out.mono ?_
       rintro ev w9 ⟨⟨gi, rfl, hb⟩, hk9⟩
       exact ⟨rfl, by rw [HX.out]; exact ⟨gi, rfl, hb⟩, HK.out.trans hk9.of_nil⟩
      have HF := Lib.hid (full_no outs.length HS.out.pbk HP.out h16)
      have H16 := Lib.hid h16
      have hbd := Lib.hid (show outs.length + 1 ≤ maxLen ∧ (outs.length + 1) * 40 ≤ 140737488355328 by simp only [maxLen]; omega)
      obtain ⟨at_, hat⟩ : ∃ a, (hdT q).at_ = a := ⟨_, rfl⟩
      obtain ⟨O, hO⟩ : ∃ O, outP q = O := ⟨_, rfl⟩
      have HOQ := Lib.hid hO
      unfold outP at hO
      rw [hat] at hO
      have HO := Lib.hid hO
      obtain ⟨g, o, c, c0, z0, lb, lg, -, hn, hc, hc2, k0, k1, k2, -⟩ := HP.out.open'
      rw [hat] at k2
      have hn2 : (0 : Int) < (q.length : Int) := by omega
      clear h16 hO hat
      go_wp2_with fail
      refine HT1.out.mono ?_
      rintro ev w3 ⟨rfl, rfl⟩
      go_wp2_with fail
      refine HF.out.mono ?_
      rintro ev w4 ⟨rfl, rfl⟩
      go_upto_region 12 with (fail)
      have hxn := Blk.new y 83 #[.int .i64 at_, .string ⟨#[]⟩, .string ⟨#[]⟩]
      have hk1 := (Keeps.refl [] y).alloc (.cells #[.int .i64 at_, .string ⟨#[]⟩, .string ⟨#[]⟩] 83)
      have hp1 := HP.out.keep hk1
      obtain ⟨x0, hx0'⟩ : ∃ x, y.alloc (.cells #[.int .i64 at_, .string ⟨#[]⟩, .string ⟨#[]⟩] 83) = x := ⟨_, rfl⟩
      rw [hx0'] at hxn hk1 hp1 ⊢
      have HBX : Hid (y.heap.size ∉ [b]) := Lib.hid (by have := HP.out.lt; simp; omega)
      have HXY : Hid (y.heap.size ≤ y.heap.size) := Lib.hid (Nat.le_refl _)
      obtain ⟨xb, hxb⟩ : ∃ x, y.heap.size = x := ⟨_, rfl⟩
      have HXY : Hid (y.heap.size ≤ xb) := Lib.hid (by omega)
      rw [hxb] at hxn HBX ⊢
      have HXB := Lib.hid hxn
      have HPX := Lib.hid hp1
      have HKX : Hid (Keeps [b] y x0) := Lib.hid hk1.of_nil
      clear hxn hk1 hp1 hx0' hxb c0 z0 lb lg hn hc hc2 k0 k1 k2 hn2 p0 lp lf f0 HT1 HF
      have p0 : x0.cell? ⟨w.heap.size, 0, none⟩ = some (.pointer (some ⟨b, 0, none⟩)) := (HS.out.ps HP.out HKX.out).pbk.cell 0
      have lp := (HS.out.ps HP.out HKX.out).pbk.lt
      rcases hS : mustP [111, 117, 116] q with x | r1
      ·have HX : Hid (R = .error x) := Lib.hid (by
        have ho := HO.out
        rw [hS, err_bind] at ho
        rw [← HR.out, many_err HSE.out HN0.out H16.out (HOQ.out.trans ho.symm)]
        rfl)
       have HC := Lib.hid (must_no hS x0 HPX.out)
       clear hS
       go_wp2_with fail
       refine HC.out.mono ?_
       rintro ev w9 ⟨⟨gi, rfl, hb⟩, hk9⟩
       exact ⟨rfl, by rw [HX.out]; exact ⟨gi, rfl, hb⟩, (HK.out.trans HKX.out).trans hk9⟩
      have ho := HO.out
      rw [hS, ok_bind] at ho
      try dsimp only at ho
      clear HO
      have HO := Lib.hid ho
      clear ho
      have HC := Lib.hid (must_yes hS x0 HPX.out)
      clear hS
      go_wp2_with fail
      refine HC.out.mono ?_
      rintro ev x1 ⟨rfl, hp, hk⟩
      have HXB' := Lib.hid (HXB.out.keep hk HBX.out)
      have HKX' := Lib.hid (HKX.out.trans hk)
      clear HPX HKX HXB HC p0 lp
      have HPX := Lib.hid hp
      have HXB := HXB'
      have HKX := HKX'
      clear hp hk HXB' HKX'
      have p0 : x1.cell? ⟨w.heap.size, 0, none⟩ = some (.pointer (some ⟨b, 0, none⟩)) := (HS.out.ps HP.out HKX.out).pbk.cell 0
      have lp := (HS.out.ps HP.out HKX.out).pbk.lt
      rcases hS : nameP r1 with x | ⟨a2, r2⟩
      ·have HX : Hid (R = .error x) := Lib.hid (by
        have ho := HO.out
        rw [hS, err_bind] at ho
        rw [← HR.out, many_err HSE.out HN0.out H16.out (HOQ.out.trans ho.symm)]
        rfl)
       have HC := Lib.hid (name_no hS x1 HPX.out)
       clear hS
       go_wp2_with fail
       refine HC.out.mono ?_
       rintro ev w9 ⟨⟨gi, rfl, hb⟩, hk9⟩
       exact ⟨rfl, by rw [HX.out]; exact ⟨gi, rfl, hb⟩, (HK.out.trans HKX.out).trans hk9⟩
      have ho := HO.out
      rw [hS, ok_bind] at ho
      try dsimp only at ho
      clear HO
      have HO := Lib.hid ho
      clear ho
      have HC := Lib.hid (name_yes hS x1 HPX.out)
      clear hS
      go_wp2_with fail
      refine HC.out.mono ?_
      rintro ev x2 ⟨rfl, hp, hk⟩
      have HXB' := Lib.hid (HXB.out.keep hk HBX.out)
      have HKX' := Lib.hid (HKX.out.trans hk)
      clear HPX HKX HXB HC p0 lp
      have HPX := Lib.hid hp
      have HXB := HXB'
      have HKX := HKX'
      clear hp hk HXB' HKX'
      have p0 : x2.cell? ⟨w.heap.size, 0, none⟩ = some (.pointer (some ⟨b, 0, none⟩)) := (HS.out.ps HP.out HKX.out).pbk.cell 0
      have lp := (HS.out.ps HP.out HKX.out).pbk.lt
      have xf := HXB.out.frozen 1
      have xc : x2.cell? ⟨xb, 1, none⟩ = some (.string ⟨#[]⟩) := HXB.out.cell 1
      have lx := HXB.out.lt
      have hkb : Keeps [xb] x2 (x2.setCell ⟨xb, 1, none⟩ (.string (bs a2))) := (Keeps.refl _ _).setCell (.inl (by simp)) _
      have HXB' := Lib.hid (set3_1 (u := .string (bs a2)) HXB.out)
      have HPX' := Lib.hid (HPX.out.far hkb (fun z hz => ⟨83, by rw [List.mem_singleton.1 hz]; exact HXB.out.ty, by decide, by decide⟩))
      have HKX' : Hid (Keeps [b] y (x2.setCell ⟨xb, 1, none⟩ (.string (bs a2)))) := Lib.hid (HKX.out.setCell (.inr HXY.out) _)
      clear hkb
      go_upto_region 14 with (fail)
      obtain ⟨x3, hy⟩ : ∃ x, (x2.setCell ⟨xb, 1, none⟩ (.string (bs a2))) = x := ⟨_, rfl⟩
      rw [hy] at HXB' HPX' HKX' ⊢
      clear hy xf xc lx HXB HPX HKX p0 lp
      have HXB := HXB'
      have HPX := HPX'
      have HKX := HKX'
      clear HXB' HPX' HKX'
      have p0 : x3.cell? ⟨w.heap.size, 0, none⟩ = some (.pointer (some ⟨b, 0, none⟩)) := (HS.out.ps HP.out HKX.out).pbk.cell 0
      have lp := (HS.out.ps HP.out HKX.out).pbk.lt
      rcases hS : mustP [61] r2 with x | r4
      ·have HX : Hid (R = .error x) := Lib.hid (by
        have ho := HO.out
        rw [hS, err_bind] at ho
        rw [← HR.out, many_err HSE.out HN0.out H16.out (HOQ.out.trans ho.symm)]
        rfl)
       have HC := Lib.hid (must_no hS x3 HPX.out)
       clear hS
       go_wp2_with fail
       refine HC.out.mono ?_
       rintro ev w9 ⟨⟨gi, rfl, hb⟩, hk9⟩
       exact ⟨rfl, by rw [HX.out]; exact ⟨gi, rfl, hb⟩, (HK.out.trans HKX.out).trans hk9⟩
      have ho := HO.out
      rw [hS, ok_bind] at ho
      try dsimp only at ho
      clear HO
      have HO := Lib.hid ho
      clear ho
      have HC := Lib.hid (must_yes hS x3 HPX.out)
      clear hS
      go_wp2_with fail
      refine HC.out.mono ?_
      rintro ev x4 ⟨rfl, hp, hk⟩
      have HXB' := Lib.hid (HXB.out.keep hk HBX.out)
      have HKX' := Lib.hid (HKX.out.trans hk)
      clear HPX HKX HXB HC p0 lp
      have HPX := Lib.hid hp
      have HXB := HXB'
      have HKX := HKX'
      clear hp hk HXB' HKX'
      have p0 : x4.cell? ⟨w.heap.size, 0, none⟩ = some (.pointer (some ⟨b, 0, none⟩)) := (HS.out.ps HP.out HKX.out).pbk.cell 0
      have lp := (HS.out.ps HP.out HKX.out).pbk.lt
      rcases hS : nameP r4 with x | ⟨a5, r5⟩
      ·have HX : Hid (R = .error x) := Lib.hid (by
        have ho := HO.out
        rw [hS, err_bind] at ho
        rw [← HR.out, many_err HSE.out HN0.out H16.out (HOQ.out.trans ho.symm)]
        rfl)
       have HC := Lib.hid (name_no hS x4 HPX.out)
       clear hS
       go_wp2_with fail
       refine HC.out.mono ?_
       rintro ev w9 ⟨⟨gi, rfl, hb⟩, hk9⟩
       exact ⟨rfl, by rw [HX.out]; exact ⟨gi, rfl, hb⟩, (HK.out.trans HKX.out).trans hk9⟩
      have ho := HO.out
      rw [hS, ok_bind] at ho
      try dsimp only at ho
      clear HO
      have HO := Lib.hid ho
      clear ho
      have HC := Lib.hid (name_yes hS x4 HPX.out)
      clear hS
      go_wp2_with fail
      refine HC.out.mono ?_
      rintro ev x5 ⟨rfl, hp, hk⟩
      have HXB' := Lib.hid (HXB.out.keep hk HBX.out)
      have HKX' := Lib.hid (HKX.out.trans hk)
      clear HPX HKX HXB HC p0 lp
      have HPX := Lib.hid hp
      have HXB := HXB'
      have HKX := HKX'
      clear hp hk HXB' HKX'
      have p0 : x5.cell? ⟨w.heap.size, 0, none⟩ = some (.pointer (some ⟨b, 0, none⟩)) := (HS.out.ps HP.out HKX.out).pbk.cell 0
      have lp := (HS.out.ps HP.out HKX.out).pbk.lt
      have xf := HXB.out.frozen 2
      have xc : x5.cell? ⟨xb, 2, none⟩ = some (.string ⟨#[]⟩) := HXB.out.cell 2
      have lx := HXB.out.lt
      have hkb : Keeps [xb] x5 (x5.setCell ⟨xb, 2, none⟩ (.string (bs a5))) := (Keeps.refl _ _).setCell (.inl (by simp)) _
      have HXB' := Lib.hid (set3_2 (u := .string (bs a5)) HXB.out)
      have HPX' := Lib.hid (HPX.out.far hkb (fun z hz => ⟨83, by rw [List.mem_singleton.1 hz]; exact HXB.out.ty, by decide, by decide⟩))
      have HKX' : Hid (Keeps [b] y (x5.setCell ⟨xb, 2, none⟩ (.string (bs a5)))) := Lib.hid (HKX.out.setCell (.inr HXY.out) _)
      clear hkb
      go_upto_region 16 with (fail)
      obtain ⟨x6, hy⟩ : ∃ x, (x5.setCell ⟨xb, 2, none⟩ (.string (bs a5))) = x := ⟨_, rfl⟩
      rw [hy] at HXB' HPX' HKX' ⊢
      clear hy xf xc lx HXB HPX HKX p0 lp
      have HXB := HXB'
      have HPX := HPX'
      have HKX := HKX'
      clear HXB' HPX' HKX'
      have p0 : x6.cell? ⟨w.heap.size, 0, none⟩ = some (.pointer (some ⟨b, 0, none⟩)) := (HS.out.ps HP.out HKX.out).pbk.cell 0
      have lp := (HS.out.ps HP.out HKX.out).pbk.lt
      rcases hS : mustP [59] r5 with x | r7
      ·have HX : Hid (R = .error x) := Lib.hid (by
        have ho := HO.out
        rw [hS, err_bind] at ho
        rw [← HR.out, many_err HSE.out HN0.out H16.out (HOQ.out.trans ho.symm)]
        rfl)
       have HC := Lib.hid (must_no hS x6 HPX.out)
       clear hS
       go_wp2_with fail
       refine HC.out.mono ?_
       rintro ev w9 ⟨⟨gi, rfl, hb⟩, hk9⟩
       exact ⟨rfl, by rw [HX.out]; exact ⟨gi, rfl, hb⟩, (HK.out.trans HKX.out).trans hk9⟩
      have ho := HO.out
      rw [hS, ok_bind] at ho
      try dsimp only at ho
      clear HO
      have HO := Lib.hid ho
      clear ho
      have HC := Lib.hid (must_yes hS x6 HPX.out)
      clear hS
      go_wp2_with fail
      refine HC.out.mono ?_
      rintro ev x7 ⟨rfl, hp, hk⟩
      have HXB' := Lib.hid (HXB.out.keep hk HBX.out)
      have HKX' := Lib.hid (HKX.out.trans hk)
      clear HPX HKX HXB HC p0 lp
      have HPX := Lib.hid hp
      have HXB := HXB'
      have HKX := HKX'
      clear hp hk HXB' HKX'
      have p0 : x7.cell? ⟨w.heap.size, 0, none⟩ = some (.pointer (some ⟨b, 0, none⟩)) := (HS.out.ps HP.out HKX.out).pbk.cell 0
      have lp := (HS.out.ps HP.out HKX.out).pbk.lt
      have HX : Hid (manyP [111, 117, 116] outP (n - 1) r7 (outs ++ [⟨at_, a2, a5⟩]) >>= flow3 ins jobs = R) := Lib.hid (by
       rw [← HR.out, many_ok HSE.out HN0.out H16.out (HOQ.out.trans HO.out.symm)])
      have HLE := Lib.hid (outP_le HQ1.out (HOQ.out.trans HO.out.symm))
      have HL1 : Hid ((outs ++ [⟨at_, a2, a5⟩] : List Pb).length ≤ 16) := Lib.hid (by have := H16.out; simp; omega)
      have HSZ := Lib.hid (HS.out.ps HP.out HKX.out)
      have fS : x7.cell? ⟨fb, 2, none⟩ = some (.slice A outs.length cv) ∧ x7.frozen? ⟨fb, 2, none⟩ = false := ⟨HSZ.out.fbk.cell 2, HSZ.out.fbk.frozen 2⟩
      obtain ⟨fc, ff⟩ := fS
      have c0' : x7.cell? ⟨xb, 0, none⟩ = some (.int .i64 at_) := HXB.out.cell 0
      have c1' : x7.cell? ⟨xb, 1, none⟩ = some (.string (bs a2)) := HXB.out.cell 1
      have c2' : x7.cell? ⟨xb, 2, none⟩ = some (.string (bs a5)) := HXB.out.cell 2
      have lx := HXB.out.lt
      have lf := HSZ.out.fbk.lt
      have HO6 := Lib.hid (own_far' HOW.out HKX.out (fun z hz => ⟨94, by rw [List.mem_singleton.1 hz]; exact HP.out.ty, by decide⟩))
      have HWZ := Lib.hid (show w.heap.size ≤ x7.heap.size + 1 from Nat.le_succ_of_le (HK.out.trans HKX.out).size)
      clear HO
      go_wp2_with (at_builtin; refine wpList_append_lies _ rfl _ _ 24 rfl _ 83 i2 _ 3 40 Tryz.underlying24 hp hx0 hx1 hx2 rfl (by decide) _ outs.length us.flatten rfl (HO6.out.alloc _) ⟨x7.heap.size, 0, none⟩ 1 1 [.int .i64 at_, .string (bs a2), .string (bs a5)] rfl rfl (World.news_of_block (heap_alloc_new _ _)) (by simp [Value.oneCell']) (by decide) hbd.out.1 hbd.out.2 (by simp; exact HWZ.out) _ rfl ?_)
      intro gw cap2 w8 hown8 hgrow8 hat8 hlt8
      obtain ⟨fc8, ff8⟩ := fld_grown hgrow8 (fld_alloc ⟨fc, ff⟩ _) (fun e => (own_ty HO6.out fb e).ne HSZ.out.fbk.ty (by decide) rfl)
      have gl8 : fb < w8.heap.size := World.block_lt_of_cell? w8 ⟨fb, 2, none⟩ fc8
      have hr8 := own_ty HO6.out
      have HS8 := Lib.hid (FlSt.app2 (x := ⟨at_, a2, a5⟩) HSZ.out HUL.out HO6.out HEL.out rfl hgrow8 hown8)
      have HP8 := Lib.hid (ps7 (k := 2) (u := .slice (some ⟨gw, 0, none⟩) (outs.length + 1) cap2) HSZ.out HPX.out hgrow8 hr8 (by decide) (by decide))
      have HK8 := Lib.hid (FlSt.keeps7 (k := 2) (u := .slice (some ⟨gw, 0, none⟩) (outs.length + 1) cap2) HSZ.out (HK.out.trans HKX.out) hgrow8 (fun z hz => (HOW.out.lt z hz).1))
      clear hr8 hown8 hgrow8 hat8 hlt8 fc ff c0' c1' c2'
      go_wp2
      go_roundw
      case rel => exact ⟨_, outs ++ [⟨at_, a2, a5⟩], r7, n - 1, HX, by have := HLE.out; have := HQN.out; omega, Lib.hid (by have := HLE.out; have := HQL.out; omega), HL1.out, HS8, HP8, HK8⟩
      case measure => rw [HP8.out.left, HM.out]; exact HLE.out
   case rest =>
    clear HS HP HK HR
    obtain ⟨v2, outs, q3, HR, HS, HP, HK⟩ := hcut
    obtain ⟨y, rfl⟩ : ∃ y : World, y = wc := ⟨_, rfl⟩
    have HX : Hid (R = .ok (⟨ins, jobs, outs⟩, q3)) := Lib.hid HR.out.symm
    clear HR
    have i0' := HS.out.i0
    have i1' := HS.out.i1
    have i2' := HS.out.i2
    obtain ⟨us0, _, how0, _⟩ := i0'
    obtain ⟨us1, _, how1, _⟩ := i1'
    obtain ⟨us2, _, how2, _⟩ := i2'
    obtain ⟨A0, c0, rfl, -⟩ := own_form how0
    obtain ⟨A1, c1, rfl, -⟩ := own_form how1
    obtain ⟨A2, c2, rfl, -⟩ := own_form how2
    have f0 : y.cell? ⟨fb, 0, none⟩ = some (.slice A0 ins.length c0) := HS.out.fbk.cell 0
    have f1 : y.cell? ⟨fb, 1, none⟩ = some (.slice A1 jobs.length c1) := HS.out.fbk.cell 1
    have f2 : y.cell? ⟨fb, 2, none⟩ = some (.slice A2 outs.length c2) := HS.out.fbk.cell 2
    have g0 : y.cell? ⟨rb, 0, none⟩ = some (.slice none 0 0) := HS.out.rbk.cell 0
    have g1 : y.cell? ⟨rb, 1, none⟩ = some (.slice none 0 0) := HS.out.rbk.cell 1
    have g2 : y.cell? ⟨rb, 2, none⟩ = some (.slice none 0 0) := HS.out.rbk.cell 2
    have z0 := HS.out.rbk.frozen 0
    have z1 := HS.out.rbk.frozen 1
    have z2 := HS.out.rbk.frozen 2
    have lf := HS.out.fbk.lt
    have lr := HS.out.rbk.lt
    clear how0 how1 how2
    go_wp2
    have hb7 := set3_2 (u := .slice A2 outs.length c2) (set3_1 (u := .slice A1 jobs.length c1) (set3_0 (u := .slice A0 ins.length c0) HS.out.rbk))
    have y0' := hb7.cell 0
    have y1' := hb7.cell 1
    have y2' := hb7.cell 2
    have hkr : Keeps [rb] y (((y.setCell ⟨rb, 0, none⟩ (.slice A0 ins.length c0)).setCell ⟨rb, 1, none⟩ (.slice A1 jobs.length c1)).setCell ⟨rb, 2, none⟩ (.slice A2 outs.length c2)) := (((Keeps.refl _ _).setCell (.inl (by simp)) _).setCell (.inl (by simp)) _).setCell (.inl (by simp)) _
    have hfr : FarOf [9, 61, 63, 45, 83, 92] [rb] y _ := ⟨hkr, fun z hz => ⟨26, by rw [List.mem_singleton.1 hz]; exact HS.out.rbk.ty, by decide⟩⟩
    refine bodyPost_ret (v := .agg #[.slice A0 ins.length c0, .slice A1 jobs.length c1, .slice A2 outs.length c2]) (by simp [results, Tryz.results36, go_sem, y0', y1', y2']) rfl ⟨?_, ?_⟩
    ·rw [HX.out]
     exact ⟨_, _, _, rfl, HS.out.i0.far hfr (by decide) (by decide), HS.out.i1.far hfr (by decide) (by decide), HS.out.i2.far hfr (by decide), HP.out.far hkr (fun z hz => ⟨26, by rw [List.mem_singleton.1 hz]; exact HS.out.rbk.ty, by decide, by decide⟩)⟩
    ·exact HK.out.trans' hkr (fun x hx hl => by rw [List.mem_singleton.1 hx] at hl; have := HRB.out; omega)
end Go.Proofs.YtnjjajanfedjiaaGreatDoor
namespace Go.Proofs.YtnjjajanfedjiaaGreatDoor
open Go.RowKit Go.BigFrame
attribute [local go_sem] bs_size bs_extract bs_append bs_toList
theorem wp_tmps {P : Program} {c : Code} {Q : Exit → Act → World → Prop} {t t' : Array Value} {d : List Deferred} {w : World} (h : t = t') (k : c.wp P Q ⟨t', d⟩ w) : c.wp P Q ⟨t, d⟩ w := h ▸ k
theorem wp_named {P : Program} {c : Code} {Q : Exit → Act → World → Prop} {a : Act} {w : World} (h : ∀ Q' : Exit → Act → World → Prop, (∀ e a w, Q e a w → Q' e a w) → c.wp P Q' a w) : c.wp P Q a w := h Q (fun _ _ _ h => h)
set_option maxRecDepth 100000 in
set_option maxHeartbeats 4000000 in
theorem catch_idle (p q : Addr) (w : World) :
  CallsD Tryz.prog 34 #[.pointer (some p), .pointer (some q)] .returning w fun e u' w' => e = .returned (.tuple #[]) ∧ u' = .returning ∧ w' = w := by
 refine callsD_of_wpS Tryz.func34 rfl fun c₀ cs hu => ?_
 apply wpS_seq
 apply wpS_region
 simp [wpOpsS, go_sem, recoverD, hu, Tryz.ntmps34, Exit.thenS]
 refine wpS_of_wp ?_
 go_wp2
 cases c₀
 simp_all [bodyPostS, results, Tryz.results34]
set_option maxRecDepth 100000 in
set_option maxHeartbeats 4000000 in
theorem catch_panicking (fb eb gi : Nat) (v0 v1 v2 : Value) (older : List PanicEntry) (w : World) (hf : Blk w fb 26 #[v0, v1, v2]) (he : Blk w eb 33 #[.nilIface]) (hne : fb ≠ eb) :
  CallsD Tryz.prog 34 #[.pointer (some ⟨fb, 0, none⟩), .pointer (some ⟨eb, 0, none⟩)] (.panicking ({ v := .iface 87 (.agg #[.iface 122 (.pointer (some ⟨gi, 0, none⟩))]), recovered := false } :: older)) w fun e u' w' =>
   e = .returned (.tuple #[]) ∧ u' = .panicking ({ v := .iface 87 (.agg #[.iface 122 (.pointer (some ⟨gi, 0, none⟩))]), recovered := true } :: older) ∧ Blk w' fb 26 #[.slice none 0 0, .slice none 0 0, .slice none 0 0] ∧ Blk w' eb 33 #[.iface 122 (.pointer (some ⟨gi, 0, none⟩))] ∧ Keeps [fb, eb] w w' := by
 refine callsD_of_wpS Tryz.func34 rfl fun c₀ cs hu => ?_
 apply wpS_seq
 apply wpS_region
 simp [wpOpsS, go_sem, recoverD, hu, Tryz.ntmps34, Exit.thenS]
 refine wpS_of_wp (wp_named fun QQ hQ => ?_)
 have HQ := Lib.hid hQ
 have hta : ∀ (v : Value) (w : World), (Instr.typeAssert (.iface 87 v) 20 87 true).run Tryz.prog w = .ok (.tuple #[v, .bool true]) w := fun v w => by first | kernel_rfl | rfl
 clear hQ hu
 refine wp_tmps (t' := #[.pointer (some ⟨fb, 0, none⟩), .pointer (some ⟨eb, 0, none⟩), .iface 87 (.agg #[.iface 122 (.pointer (some ⟨gi, 0, none⟩))]), undef, undef, .iface 87 (.agg #[.iface 122 (.pointer (some ⟨gi, 0, none⟩))]), undef, undef, undef, undef, undef, undef, undef, undef, undef, undef, undef, undef, undef]) (by first | rfl | simp [Array.replicate, List.replicate] | trace_state) ?_
 have f0 : w.cell? ⟨fb, 0, none⟩ = some v0 := hf.cell 0
 have f1 : w.cell? ⟨fb, 1, none⟩ = some v1 := hf.cell 1
 have f2 : w.cell? ⟨fb, 2, none⟩ = some v2 := hf.cell 2
 have z0 := hf.frozen 0
 have z1 := hf.frozen 1
 have z2 := hf.frozen 2
 have e0 : w.cell? ⟨eb, 0, none⟩ = some .nilIface := he.cell 0
 have ez := he.frozen 0
 have lf := hf.lt
 have le := he.lt
 have HF := Lib.hid hf
 have HE := Lib.hid he
 clear hf he
 go_wp2
 go_region
 refine HQ.out _ _ _ ⟨rfl, _, rfl, _, results_none rfl _ _ _, rfl, rfl, ?_, ?_, ?_⟩
 ·exact ((((set3_2 (set3_1 (set3_0 HF.out))).keep ((Keeps.refl [eb] _).setCell (.inl (by simp)) _) (by simpa using hne)).keep ((Keeps.refl [] _).alloc _) (by simp)).keep ((Keeps.refl [] _).drew) (by simp))
 ·have h1 : Keeps [fb] w (((w.setCell ⟨fb, 0, none⟩ (.slice none 0 0)).setCell ⟨fb, 1, none⟩ (.slice none 0 0)).setCell ⟨fb, 2, none⟩ (.slice none 0 0)) := (((Keeps.refl _ _).setCell (.inl (by simp)) _).setCell (.inl (by simp)) _).setCell (.inl (by simp)) _
  exact ((((HE.out.keep h1 (by simpa using hne.symm)).set 0 _).congr rfl).keep ((Keeps.refl [] _).alloc _) (by simp)).keep ((Keeps.refl [] _).drew) (by simp)
 ·exact (((((((Keeps.refl _ _).setCell (.inl (by simp)) _).setCell (.inl (by simp)) _).setCell (.inl (by simp)) _).setCell (.inl (by simp)) _).alloc _).drew)
end Go.Proofs.YtnjjajanfedjiaaGreatDoor
namespace Go.Proofs.YtnjjajanfedjiaaGreatDoor
open Go.RowKit Go.BigFrame
attribute [local go_sem] bs_size bs_extract bs_append bs_toList
theorem InEl.low {W : World} {base base' : Nat} (hb : base ≤ base') : ∀ cs x, InEl W base' cs x → InEl W base cs x := fun _ _ ⟨v, h1, h2⟩ => ⟨v, h1, own_low h2 hb⟩
theorem JbEl.low {W : World} {base base' : Nat} (hb : base ≤ base') : ∀ cs x, JbEl W base' cs x → JbEl W base cs x := fun _ _ ⟨v2, v3, v4, h1, h2⟩ => ⟨v2, v3, v4, h1, ⟨own_low h2.o2 hb, own_low h2.o3 hb, own_low h2.o4 hb⟩⟩
theorem LstIs.low {α : Type} {El : World → Nat → List Value → α → Prop} {e : TypeId} {size base base' : Nat} {W : World} {v : Value} {l : List α} (hb : base ≤ base') (hE : ∀ cs x, El W base' cs x → El W base cs x) (h : LstIs El e size W base' v l) : LstIs El e size W base v l := by
 obtain ⟨us, h1, h2, h3⟩ := h
 exact ⟨us, h1, own_low h2 hb, fun j h h' => hE _ _ (h3 j h h')⟩
def FParseOut (R : Except (Int × Int) Fl) (base : Nat) (e : Ending) (w' : World) : Prop := match R with
 | .ok f => ∃ v0 v1 v2, e = .returned (.tuple #[.agg #[v0, v1, v2], .nilIface]) ∧ InsIs w' base v0 f.ins ∧ JobsIs w' base v1 f.jobs ∧ OutsIs w' base v2 f.outs
 | .error x => ∃ gi, e = .returned (.tuple #[.agg #[.slice none 0 0, .slice none 0 0, .slice none 0 0], .iface 122 (.pointer (some ⟨gi, 0, none⟩))]) ∧ Blk w' gi 123 #[.int .i64 x.1, .int .i64 x.2]
theorem ps_new {y : World} {base : Nat} {v : Value} {l : List Tk} (h : y.ownsRow base 97 3 v l.length (tsCells l)) (he : EndT l) (hw : ∀ t ∈ l, TkW t) : Ps (y.alloc (.cells #[v] 94)) y.heap.size l := by
 rcases h.2 with ⟨_, h0⟩ | ⟨g, cap, cur, rfl, hb, hh, h1, h2, h3, h4⟩
 ·have := he.pos; omega
 have hg : g < y.heap.size := (Array.getElem?_eq_some_iff.1 hh).1
 have hk := (Keeps.refl [] y).alloc (.cells #[.slice (some ⟨g, 0, none⟩) l.length cap] 94)
 obtain ⟨A, c, e, hx⟩ := own_form h
 injection e with e1 e2 e3
 subst e1 e3
 obtain ⟨g', e4, _, hx⟩ := hx he.pos
 injection e4 with e4
 injection e4 with e4
 subst e4
 exact ⟨g, 0, cap, Blk.new _ _ _, ⟨OfTy.keep ⟨_, _, hh⟩ hk (by simp), hg⟩, h1, h2, he, hw, fun j u hu => by rw [Nat.zero_add]; exact hk.cell_of (hx j u hu) (by simp)⟩
theorem blk_put {W : World} {g b k : Nat} {e : TypeId} {cs : Array Value} {u : Value} (h : Blk W g e cs) (hne : g ≠ b) : Blk (W.setCell ⟨b, k, none⟩ u) g e cs := h.keep ((Keeps.refl [b] _).setCell (.inl (by simp)) _) (by simpa using hne)
theorem set1_0 {W : World} {g : Nat} {e : TypeId} {a u : Value} (h : Blk W g e #[a]) : Blk (W.setCell ⟨g, 0, none⟩ u) g e #[u] := (h.set 0 u).congr rfl
theorem blk_drew {W : World} {g : Nat} {e : TypeId} {cs : Array Value} (h : Blk W g e cs) : Blk W.drew g e cs := h
theorem leaves_nil {P : Program} {fn : Func} {tmps : Array Value} {R : Ending → World → Prop} {w : World} {v : Value} (h1 : (results fn tmps).run P w = .ok v w) (h2 : R (.returned v) w) : Leaves P fn tmps R [] .returning w := ⟨v, h1, h2⟩
set_option maxRecDepth 100000 in
set_option maxHeartbeats 8000000 in
theorem parse_any (s : Bs) (hs : s.length ≤ 1000000) (w : World) (hE : FEnv w) :
  Calls Tryz.prog 7 #[.string (bs s)] w fun e w' => FParseOut (parseF s) w.heap.size e w' ∧ Keeps [] w w' := by
 have hmf : ∀ (fn : Fn) (first cap : Array Value) (w : World), (Instr.makeFunc fn first cap).run Tryz.prog w = .ok (.func fn first cap) w := fun _ _ _ _ => rfl
 obtain ⟨R, hR⟩ : ∃ R, parseF s = R := ⟨_, rfl⟩
 rw [hR]
 unfold parseF at hR
 have HR := Lib.hid hR
 have HE := Lib.hid hE
 have HSL := Lib.hid hs
 clear hR hE hs
 go_enter_defers Tryz.func7, Tryz.ntmps7
 go_upto_region 2 with (fail)
 obtain ⟨W1, hW1⟩ : ∃ x, w.alloc (.cells #[.slice none 0 0, .slice none 0 0, .slice none 0 0] 26) = x := ⟨_, rfl⟩
 have z1 : W1.heap.size = w.heap.size + 1 := by rw [← hW1]; exact fsz _ _
 obtain ⟨y0, hW2⟩ : ∃ x, W1.alloc (.cells #[.nilIface] 33) = x := ⟨_, rfl⟩
 have k1 : Keeps [] w W1 := by rw [← hW1]; exact (Keeps.refl _ _).alloc _
 have k2 : Keeps [] W1 y0 := by rw [← hW2]; exact (Keeps.refl _ _).alloc _
 have b1 : Blk W1 w.heap.size 26 #[.slice none 0 0, .slice none 0 0, .slice none 0 0] := by rw [← hW1]; exact Blk.new _ _ _
 have b2 : Blk y0 (w.heap.size + 1) 33 #[.nilIface] := by rw [← hW2, ← z1]; exact Blk.new _ _ _
 have b1' := b1.keep k2 (by simp)
 rw [hW1, hW2]
 obtain ⟨eb, heb⟩ : ∃ x, w.heap.size + 1 = x := ⟨_, rfl⟩
 rw [heb] at b2 ⊢
 obtain ⟨rb, hrb⟩ : ∃ x, w.heap.size = x := ⟨_, rfl⟩
 have HRN := Lib.hid hrb
 rw [hrb] at b1' heb ⊢
 have HRB := Lib.hid b1'
 have HEB := Lib.hid b2
 have HK := Lib.hid (k1.trans k2)
 have HNE : Hid (rb ≠ eb) := Lib.hid (by omega)
 have HWR : Hid (w.heap.size ≤ rb) := Lib.hid (by have := HRN.out; omega)
 have HWE : Hid (w.heap.size ≤ eb) := Lib.hid (by have := HRN.out; omega)
 have ne1 : ¬ rb = eb := by omega
 have ne2 : ¬ eb = rb := by omega
 have HLO : Hid (rb < eb) := Lib.hid (by omega)
 clear b1 b1' b2 k1 k2 z1 hW1 hW2 heb hrb
 have f0 : y0.cell? ⟨eb, 0, none⟩ = some .nilIface := HEB.out.cell 0
 have hT := tokens_any s HSL.out y0 (HE.out.quiet HK.out)
 rcases hL : lexL s with x | l
 ·have HX : Hid (R = .error x) := Lib.hid (by rw [← HR.out, hL]; rfl)
  rw [hL] at hT
  have HT := Lib.hid hT
  clear hT hL f0
  go_wp2_with fail
  refine HT.out.mono ?_
  rintro ev y1 ⟨⟨gi, rfl, hb⟩, hk⟩
  have HRB1 := Lib.hid (HRB.out.keep hk (by simp))
  have HEB1 := Lib.hid (HEB.out.keep hk (by simp))
  have HK1 := Lib.hid (HK.out.trans hk)
  have HB1 := Lib.hid hb
  clear hb hk HT
  have f0 : y1.cell? ⟨eb, 0, none⟩ = some .nilIface := HEB1.out.cell 0
  have ez := HEB1.out.frozen 0
  have le := HEB1.out.lt
  have r0 : y1.cell? ⟨rb, 0, none⟩ = some (.slice none 0 0) := HRB1.out.cell 0
  have r1 : y1.cell? ⟨rb, 1, none⟩ = some (.slice none 0 0) := HRB1.out.cell 1
  have r2 : y1.cell? ⟨rb, 2, none⟩ = some (.slice none 0 0) := HRB1.out.cell 2
  have z0 := HRB1.out.frozen 0
  have z1 := HRB1.out.frozen 1
  have z2 := HRB1.out.frozen 2
  have lr := HRB1.out.lt
  go_upto_region 4 with (fail)
  go_region
  go_wp2
  refine leaves_cons (f := 34) (args := #[.pointer (some ⟨rb, 0, none⟩), .pointer (some ⟨eb, 0, none⟩)]) (by simp) (by simp [go_sem]) ?_
  refine (catch_idle ⟨rb, 0, none⟩ ⟨eb, 0, none⟩ _).mono ?_
  rintro e u' w'' ⟨rfl, rfl, rfl⟩
  have hRB := blk_drew (blk_put (k := 0) (u := .iface 122 (.pointer (some ⟨gi, 0, none⟩))) (set3_2 (u := .slice none 0 0) (set3_1 (u := .slice none 0 0) (set3_0 (u := .slice none 0 0) (blk_put (k := 0) (u := .iface 122 (.pointer (some ⟨gi, 0, none⟩))) HRB1.out HNE.out)))) HNE.out)
  have hEB := blk_drew (set1_0 (u := .iface 122 (.pointer (some ⟨gi, 0, none⟩))) (blk_put (k := 2) (u := .slice none 0 0) (blk_put (k := 1) (u := .slice none 0 0) (blk_put (k := 0) (u := .slice none 0 0) (set1_0 (u := .iface 122 (.pointer (some ⟨gi, 0, none⟩))) HEB1.out) HNE.out.symm) HNE.out.symm) HNE.out.symm))
  have q0 := hRB.cell 0
  have q1 := hRB.cell 1
  have q2 := hRB.cell 2
  have q3 := hEB.cell 0
  refine leaves_nil (v := .tuple #[.agg #[.slice none 0 0, .slice none 0 0, .slice none 0 0], .iface 122 (.pointer (some ⟨gi, 0, none⟩))]) (by simp [results, Tryz.results7, go_sem, q0, q1, q2, q3]) ?_
  have g1 := HB1.out.ty.ne HRB1.out.ty (by decide)
  have g2 := HB1.out.ty.ne HEB1.out.ty (by decide)
  refine ⟨?_, ((((((HK1.out.setCell (.inr HWE.out) _).setCell (.inr HWR.out) _).setCell (.inr HWR.out) _).setCell (.inr HWR.out) _).setCell (.inr HWE.out) _).drew)⟩
  rw [HX.out]
  exact ⟨gi, rfl, blk_drew (blk_put (blk_put (blk_put (blk_put (blk_put HB1.out g2) g1) g1) g1) g2)⟩
 ·rw [hL] at hT
  obtain ⟨hEND, hTW, hLN⟩ := lexL_ok HSL.out hL
  have HR1 : Hid (parseT l = R) := Lib.hid (by rw [← HR.out, hL]; rfl)
  have HT := Lib.hid hT
  have HEN := Lib.hid hEND
  have HTWH := Lib.hid hTW
  have HLL : Hid (l.length ≤ 1000000) := Lib.hid (by omega)
  have hpos := hEND.pos
  clear hT hL f0 HR hEND hTW hLN
  go_wp2_with fail
  refine HT.out.mono ?_
  rintro ev y1 ⟨⟨A, c, rfl, hov⟩, hk⟩
  obtain ⟨b0, hb0⟩ : ∃ g, A = some ⟨g, 0, none⟩ := by
   obtain ⟨A', c', e, hx⟩ := own_form hov
   injection e with e1 e2 e3
   subst e1
   obtain ⟨g, h1, _⟩ := hx hpos
   exact ⟨g, h1⟩
  subst hb0
  have HRB1 := Lib.hid (HRB.out.keep hk (by simp))
  have HEB1 := Lib.hid (HEB.out.keep hk (by simp))
  have HK1 := Lib.hid (HK.out.trans hk)
  have HOV := Lib.hid hov
  clear hov hk HT
  have f0 : y1.cell? ⟨eb, 0, none⟩ = some .nilIface := HEB1.out.cell 0
  have ez := HEB1.out.frozen 0
  have le := HEB1.out.lt
  have hyk : Keeps [eb] y1 (y1.setCell ⟨eb, 0, none⟩ .nilIface) := (Keeps.refl _ _).setCell (.inl (by simp)) _
  have HRB2 := Lib.hid (HRB1.out.keep hyk (by simpa using HNE.out))
  have HEB2 := Lib.hid (set1_0 (u := .nilIface) HEB1.out)
  have HK2 := Lib.hid (HK1.out.setCell (p := ⟨eb, 0, none⟩) (.inr HWE.out) .nilIface)
  have HOV2 : Hid ((y1.setCell ⟨eb, 0, none⟩ .nilIface).ownsRow y0.heap.size 97 3 (.slice (some ⟨b0, 0, none⟩) l.length c) l.length (tsCells l)) := Lib.hid (own_far' HOV.out hyk (fun x hx => by rw [List.mem_singleton.1 hx]; exact ⟨_, HEB1.out.ty, by decide⟩))
  clear hyk
  go_upto_region 5 with (fail)
  obtain ⟨y2, hy2⟩ : ∃ x, y1.setCell ⟨eb, 0, none⟩ .nilIface = x := ⟨_, rfl⟩
  rw [hy2] at HRB2 HEB2 HK2 HOV2 ⊢
  clear hy2 f0 ez le HRB1 HEB1 HK1 HOV
  go_upto_region 6 with (fail)
  have hps := ps_new HOV2.out HEN.out HTWH.out
  have hk3 := (Keeps.refl [] y2).alloc (.cells #[.slice (some ⟨b0, 0, none⟩) l.length c] 94)
  obtain ⟨y3, hy3⟩ : ∃ x, y2.alloc (.cells #[.slice (some ⟨b0, 0, none⟩) l.length c] 94) = x := ⟨_, rfl⟩
  rw [hy3] at hps hk3 ⊢
  have hyw : w.heap.size ≤ y2.heap.size := HK2.out.size
  obtain ⟨b, hb⟩ : ∃ x, y2.heap.size = x := ⟨_, rfl⟩
  rw [hb] at hps hyw ⊢
  have HP := Lib.hid hps
  have HRB3 := Lib.hid (HRB2.out.keep hk3 (by simp))
  have HEB3 := Lib.hid (HEB2.out.keep hk3 (by simp))
  have HK3 := Lib.hid (HK2.out.trans hk3)
  have HWB := Lib.hid hyw
  have HFB : Hid (FB y3 w.heap.size) := Lib.hid ⟨w, HE.out, HK3.out, Nat.le_refl _⟩
  have hnr := HP.out.ty.ne HRB3.out.ty (by decide)
  have hnee := HP.out.ty.ne HEB3.out.ty (by decide)
  have HNR : Hid (rb ∉ [b]) := Lib.hid (by simpa using hnr.symm)
  have HNB : Hid (eb ∉ [b]) := Lib.hid (by simpa using hnee.symm)
  clear hps hk3 hy3 hyw hb HRB2 HEB2 HK2 HOV2 hnr hnee
  have hF := flow_any y3 HFB.out HWB.out HP.out HLL.out
  rcases hFl : flowP l with x | ⟨f, r⟩
  ·have HX : Hid (R = .error x) := Lib.hid (by rw [← HR1.out]; unfold parseT; rw [hFl]; rfl)
   rw [hFl] at hF
   have HF := Lib.hid hF
   clear hF hFl
   go_wp2_with fail
   refine HF.out.mono ?_
   rintro ev y4 ⟨⟨gi, rfl, hb⟩, hk⟩
   have HRB4 := Lib.hid (HRB3.out.keep hk HNR.out)
   have HEB4 := Lib.hid (HEB3.out.keep hk HNB.out)
   have HK4 : Hid (Keeps [] w y4) := Lib.hid (HK3.out.trans' hk (fun x hx hl => by have := HWB.out; rw [List.mem_singleton.1 hx] at hl; omega))
   have HB4 := Lib.hid hb
   clear hb hk
   refine leaves_cons (f := 34) (args := #[.pointer (some ⟨rb, 0, none⟩), .pointer (some ⟨eb, 0, none⟩)]) (by simp) (by simp [go_sem]) ?_
   have g1 := HB4.out.ty.ne HRB4.out.ty (by decide)
   have g2 := HB4.out.ty.ne HEB4.out.ty (by decide)
   refine (catch_panicking rb eb gi (.slice none 0 0) (.slice none 0 0) (.slice none 0 0) [] y4 HRB4.out HEB4.out HNE.out).mono ?_
   rintro e u' w9 ⟨rfl, rfl, hRB, hEB, hk⟩
   have q0 := hRB.cell 0
   have q1 := hRB.cell 1
   have q2 := hRB.cell 2
   have q3 := hEB.cell 0
   refine leaves_nil (v := .tuple #[.agg #[.slice none 0 0, .slice none 0 0, .slice none 0 0], .iface 122 (.pointer (some ⟨gi, 0, none⟩))]) (by simp [results, Tryz.results7, go_sem, q0, q1, q2, q3]) ?_
   refine ⟨?_, (HK4.out).trans' hk (fun x hx hl => by have := HWE.out; have := HWR.out; simp at hx; omega)⟩
   rw [HX.out]
   exact ⟨gi, rfl, HB4.out.keep hk (by simp [g1, g2])⟩
  ·rw [hFl] at hF
   have HR2 : Hid ((if (hdT r).kind ≠ 5 then failP 3 r else .ok f) = R) := Lib.hid (by rw [← HR1.out]; unfold parseT; rw [hFl]; rfl)
   have HF := Lib.hid hF
   clear hF hFl
   go_wp2_with fail
   refine HF.out.mono ?_
   rintro ev y4 ⟨⟨v0, v1, v2, rfl, hi0, hi1, hi2, hp⟩, hk⟩
   obtain ⟨A0, c0, rfl⟩ : ∃ A c, v0 = .slice A f.ins.length c := by obtain ⟨_, _, h, _⟩ := hi0; obtain ⟨A, c, h, _⟩ := own_form h; exact ⟨A, c, h⟩
   obtain ⟨A1, c1, rfl⟩ : ∃ A c, v1 = .slice A f.jobs.length c := by obtain ⟨_, _, h, _⟩ := hi1; obtain ⟨A, c, h, _⟩ := own_form h; exact ⟨A, c, h⟩
   obtain ⟨A2, c2, rfl⟩ : ∃ A c, v2 = .slice A f.outs.length c := by obtain ⟨_, _, h, _⟩ := hi2; obtain ⟨A, c, h, _⟩ := own_form h; exact ⟨A, c, h⟩
   have HRB4 := Lib.hid (HRB3.out.keep hk HNR.out)
   have HEB4 := Lib.hid (HEB3.out.keep hk HNB.out)
   have HK4 : Hid (Keeps [] w y4) := Lib.hid (HK3.out.trans' hk (fun x hx hl => by have := HWB.out; rw [List.mem_singleton.1 hx] at hl; omega))
   have HY3 := Lib.hid HK3.out.size
   have hkr : Keeps [rb] y4 (((y4.setCell ⟨rb, 0, none⟩ (.slice A0 f.ins.length c0)).setCell ⟨rb, 1, none⟩ (.slice A1 f.jobs.length c1)).setCell ⟨rb, 2, none⟩ (.slice A2 f.outs.length c2)) := (((Keeps.refl _ _).setCell (.inl (by simp)) _).setCell (.inl (by simp)) _).setCell (.inl (by simp)) _
   have hfr : FarOf [9, 61, 63, 45, 83, 92] [rb] y4 _ := ⟨hkr, fun z hz => ⟨26, by rw [List.mem_singleton.1 hz]; exact HRB4.out.ty, by decide⟩⟩
   have HI0 := Lib.hid (hi0.far hfr (by decide) (by decide))
   have HI1 := Lib.hid (hi1.far hfr (by decide) (by decide))
   have HI2 := Lib.hid (hi2.far hfr (by decide))
   have HP5 := Lib.hid (hp.far hkr (fun z hz => ⟨26, by rw [List.mem_singleton.1 hz]; exact HRB4.out.ty, by decide, by decide⟩))
   have HEB5 := Lib.hid (HEB4.out.keep hkr (by simpa using HNE.out.symm))
   have HRB5 := Lib.hid (set3_2 (u := .slice A2 f.outs.length c2) (set3_1 (u := .slice A1 f.jobs.length c1) (set3_0 (u := .slice A0 f.ins.length c0) HRB4.out)))
   have HK5 : Hid (Keeps [] w _) := Lib.hid (((HK4.out.setCell (p := ⟨rb, 0, none⟩) (.inr HWR.out) (.slice A0 f.ins.length c0)).setCell (p := ⟨rb, 1, none⟩) (.inr HWR.out) (.slice A1 f.jobs.length c1)).setCell (p := ⟨rb, 2, none⟩) (.inr HWR.out) (.slice A2 f.outs.length c2))
   have r0 : y4.cell? ⟨rb, 0, none⟩ = some (.slice none 0 0) := HRB4.out.cell 0
   have r1 : y4.cell? ⟨rb, 1, none⟩ = some (.slice none 0 0) := HRB4.out.cell 1
   have r2 : y4.cell? ⟨rb, 2, none⟩ = some (.slice none 0 0) := HRB4.out.cell 2
   have z0 := HRB4.out.frozen 0
   have z1 := HRB4.out.frozen 1
   have z2 := HRB4.out.frozen 2
   have lr := HRB4.out.lt
   clear hi0 hi1 hi2 hp hk hkr hfr
   go_upto_region 7 with (fail)
   obtain ⟨y5, hy5⟩ : ∃ x, ((y4.setCell ⟨rb, 0, none⟩ (.slice A0 f.ins.length c0)).setCell ⟨rb, 1, none⟩ (.slice A1 f.jobs.length c1)).setCell ⟨rb, 2, none⟩ (.slice A2 f.outs.length c2) = x := ⟨_, rfl⟩
   rw [hy5] at HI0 HI1 HI2 HP5 HEB5 HRB5 HK5 ⊢
   clear hy5 r0 r1 r2 z0 z1 z2 lr HRB4 HEB4 HK4
   obtain ⟨g, o, c', c0', z0, lb, lg, -, hn, hc, hc2, k0, k1, k2, -⟩ := HP5.out.open'
   have hn2 : (0 : Int) < (r.length : Int) := by omega
   by_cases h5 : (hdT r).kind = 5
   ·have HX : Hid (R = .ok f) := Lib.hid (by rw [← HR2.out, if_neg (by rw [h5]; decide)])
    rw [h5] at k0
    have f0 : y5.cell? ⟨eb, 0, none⟩ = some .nilIface := HEB5.out.cell 0
    have ez := HEB5.out.frozen 0
    have le := HEB5.out.lt
    have r0 : y5.cell? ⟨rb, 0, none⟩ = some (.slice A0 f.ins.length c0) := HRB5.out.cell 0
    have r1 : y5.cell? ⟨rb, 1, none⟩ = some (.slice A1 f.jobs.length c1) := HRB5.out.cell 1
    have r2 : y5.cell? ⟨rb, 2, none⟩ = some (.slice A2 f.outs.length c2) := HRB5.out.cell 2
    have z0' := HRB5.out.frozen 0
    have z1' := HRB5.out.frozen 1
    have z2' := HRB5.out.frozen 2
    have lr := HRB5.out.lt
    clear h5
    go_wp2
    refine leaves_cons (f := 34) (args := #[.pointer (some ⟨rb, 0, none⟩), .pointer (some ⟨eb, 0, none⟩)]) (by simp) (by simp [go_sem]) ?_
    refine (catch_idle ⟨rb, 0, none⟩ ⟨eb, 0, none⟩ _).mono ?_
    rintro e u' w'' ⟨rfl, rfl, rfl⟩
    have hkr : Keeps [rb, eb] y5 ((((y5.setCell ⟨rb, 0, none⟩ (.slice A0 f.ins.length c0)).setCell ⟨rb, 1, none⟩ (.slice A1 f.jobs.length c1)).setCell ⟨rb, 2, none⟩ (.slice A2 f.outs.length c2)).setCell ⟨eb, 0, none⟩ .nilIface) := ((((Keeps.refl _ _).setCell (.inl (by simp)) _).setCell (.inl (by simp)) _).setCell (.inl (by simp)) _).setCell (.inl (by simp)) _
    have hfr : FarOf [9, 61, 63, 45, 83, 92] [rb, eb] y5 _ := ⟨hkr, fun z hz => by
     rcases List.mem_cons.1 hz with h | h
     ·exact ⟨26, by rw [h]; exact HRB5.out.ty, by decide⟩
     ·exact ⟨33, by rw [List.mem_singleton.1 h]; exact HEB5.out.ty, by decide⟩⟩
    have hRB := blk_put (b := eb) (k := 0) (u := .nilIface) (set3_2 (u := (.slice A2 f.outs.length c2)) (set3_1 (u := (.slice A1 f.jobs.length c1)) (set3_0 (u := (.slice A0 f.ins.length c0)) HRB5.out))) HNE.out
    have hEB := set1_0 (u := .nilIface) (blk_put (b := rb) (k := 2) (u := (.slice A2 f.outs.length c2)) (blk_put (b := rb) (k := 1) (u := (.slice A1 f.jobs.length c1)) (blk_put (b := rb) (k := 0) (u := (.slice A0 f.ins.length c0)) HEB5.out HNE.out.symm) HNE.out.symm) HNE.out.symm)
    have q0 := hRB.cell 0
    have q1 := hRB.cell 1
    have q2 := hRB.cell 2
    have q3 := hEB.cell 0
    refine leaves_nil (v := .tuple #[.agg #[.slice A0 f.ins.length c0, .slice A1 f.jobs.length c1, .slice A2 f.outs.length c2], .nilIface]) (by simp [results, Tryz.results7, go_sem, q0, q1, q2, q3]) ?_
    refine ⟨?_, HK5.out.trans' hkr (fun x hx hl => by have := HWE.out; have := HWR.out; simp at hx; omega)⟩
    rw [HX.out]
    have hlow : w.heap.size ≤ y3.heap.size := HY3.out
    exact ⟨_, _, _, rfl, LstIs.low hlow (InEl.low hlow) (HI0.out.far hfr (by decide) (by decide)), LstIs.low hlow (JbEl.low hlow) (HI1.out.far hfr (by decide) (by decide)), LstIs.low hlow (fun _ _ h => h) (HI2.out.far hfr (by decide))⟩
   ·have e5 : ((hdT r).kind != 5) = true := by rw [bne_iff_ne]; exact h5
    have HX : Hid (R = .error (3, (hdT r).at_)) := Lib.hid (by rw [← HR2.out, if_pos h5]; rfl)
    clear h5
    go_wp2_with fail
    refine (fail_any' 3 y5 HP5.out).mono ?_
    rintro ev y6 ⟨⟨gi, rfl, hb⟩, hk⟩
    have HRB6 := Lib.hid (HRB5.out.keep hk (by simp))
    have HEB6 := Lib.hid (HEB5.out.keep hk (by simp))
    have HK6 := Lib.hid (HK5.out.trans hk)
    have HB6 := Lib.hid hb
    clear hb hk
    refine leaves_cons (f := 34) (args := #[.pointer (some ⟨rb, 0, none⟩), .pointer (some ⟨eb, 0, none⟩)]) (by simp) (by simp [go_sem]) ?_
    have g1 := HB6.out.ty.ne HRB6.out.ty (by decide)
    have g2 := HB6.out.ty.ne HEB6.out.ty (by decide)
    refine (catch_panicking rb eb gi (.slice A0 f.ins.length c0) (.slice A1 f.jobs.length c1) (.slice A2 f.outs.length c2) [] y6 HRB6.out HEB6.out HNE.out).mono ?_
    rintro e u' w9 ⟨rfl, rfl, hRB, hEB, hk⟩
    have q0 := hRB.cell 0
    have q1 := hRB.cell 1
    have q2 := hRB.cell 2
    have q3 := hEB.cell 0
    refine leaves_nil (v := .tuple #[.agg #[.slice none 0 0, .slice none 0 0, .slice none 0 0], .iface 122 (.pointer (some ⟨gi, 0, none⟩))]) (by simp [results, Tryz.results7, go_sem, q0, q1, q2, q3]) ?_
    refine ⟨?_, (HK6.out).trans' hk (fun x hx hl => by have := HWE.out; have := HWR.out; simp at hx; omega)⟩
    rw [HX.out]
    exact ⟨gi, rfl, HB6.out.keep hk (by simp [g1, g2])⟩
end Go.Proofs.YtnjjajanfedjiaaGreatDoor
