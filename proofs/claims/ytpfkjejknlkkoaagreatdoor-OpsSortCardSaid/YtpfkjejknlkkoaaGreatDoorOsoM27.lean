/- The package-level variables that jobs lean on, all of them. ops.Do, by what Cols and made do. foremankeep.one: the first table that a job makes. -/
import Derived.Test.YtpfkjejknlkkoaaGreatDoorOsoM7
import Derived.Test.YtpfkjejknlkkoaaGreatDoorOsoM10
import Derived.Test.YtpfkjejknlkkoaaGreatDoorOsoM16
set_option linter.unusedSimpArgs false
set_option linter.unusedVariables false
namespace Go.Proofs.YtpfkjejknlkkoaaGreatDoor
structure OEnv (w : World) : Prop where
 t : TEnv w
 c : CEnv w
theorem OEnv.quiet {w w' : World} (h : OEnv w) (hk : Keeps [] w w') : OEnv w' := ⟨h.t.quiet hk, h.c.quiet hk⟩
theorem OEnv.cmp {w : World} (h : OEnv w) : ∃ A c, w.cell? ⟨1, 0, none⟩ = some (.slice A 6 c) ∧ Rd w [] 1 A 6 (strs compares) := h.c.cmp
end Go.Proofs.YtpfkjejknlkkoaaGreatDoor
namespace Go.Proofs.YtpfkjejknlkkoaaGreatDoor
open Go.RowKit Go.BigFrame
attribute [local go_sem] bs_size bs_extract bs_append bs_toList
theorem tinfo : (Tryz.prog.info? 25).map (fun i => (i.zero, i.size, i.bytes)) = some (some (.agg #[.slice none 0 0, .slice none 0 0]), 2, 48) := by kernel_rfl
theorem hinfo : (Tryz.prog.info? 22).map (fun i => (i.zero, i.size, i.bytes)) = some (some (.slice none 0 0), 1, 24) := by kernel_rfl
theorem take_all {α : Type} {p : α → Prop} {l : List α} {m : Nat} (h : m < l.length) (h1 : ∀ x ∈ l.take m, p x) (h2 : p l[m]) : ∀ x ∈ l.take (m + 1), p x := fun x hx => by
 rw [List.take_succ_eq_append_getElem h, List.mem_append] at hx
 rcases hx with hx | hx
 ·exact h1 x hx
 ·rw [List.mem_singleton] at hx; rw [hx]; exact h2
set_option maxHeartbeats 8000000 in
set_option maxRecDepth 40000 in
theorem do_any (j : Jb) (Ao : Option Addr) (co : Nat) (Ai : Option Addr) (ni ci : Nat) (Ac : Option Addr) (cc : Nat) (ins : List Tb) (AT : Option Addr) (ct : Nat) (w : World) (hI : RdTbs w AT ins) (hB : ∀ t ∈ ins, TbB t) (hl : ins.length ≤ 4294967296)
  (hC : ∀ W, Keeps [] w W → ∀ AH ch, RdHeads W AH (ins.map (·.cols)) → Calls Tryz.prog 44 #[jAgg j Ao co Ai ni ci Ac cc, .slice AH (ins.map (·.cols)).length ch] W fun e w' => ColsOut (colsJ j (ins.map (·.cols))) e w' ∧ Keeps [] W w')
  (hM : ∀ out, (∀ t ∈ ins, rightB t = true) → colsJ j (ins.map (·.cols)) = .ok out → ∀ W, Keeps [] w W → ∀ OA od, Calls Tryz.prog 45 #[jAgg j Ao co Ai ni ci Ac cc, .slice AT ins.length ct, .slice OA out.length od] W fun e w' => MadeOut (madeJ j ins out) e w' ∧ Keeps [] W w') :
  Calls Tryz.prog 27 #[jAgg j Ao co Ai ni ci Ac cc, .slice AT ins.length ct] w fun e w' => DoOut (doJ j ins) e w' ∧ Keeps [] w w' := by
 obtain ⟨ih, hih, hhz0, hhz1, hhz2⟩ := info_parts hinfo
 obtain ⟨it, hit, htz0, htz1, htz2⟩ := info_parts tinfo
 obtain ⟨R, hR⟩ : ∃ R, doJ j ins = R := ⟨_, rfl⟩
 have HR0 : Hid (∀ t ∈ ins, rightB t = false → R = .error 1) := Lib.hid fun t ht hr => by
  rw [← hR]; unfold doJ
  rw [if_pos (List.any_eq_true.2 ⟨t, ht, by rw [hr]; rfl⟩)]
 have HR1 : Hid ((∀ t ∈ ins, rightB t = true) → R = match colsJ j (ins.map (·.cols)) with
  | .error e => .error e
  | .ok out => match madeJ j ins out with
   | .error e => .error e
   | .ok rows => tabsJ out rows) := Lib.hid fun h => by
  rw [← hR]; unfold doJ
  rw [if_neg (by rw [List.any_eq_true]; rintro ⟨t, ht, hn⟩; rw [h t ht] at hn; cases hn)]
  cases colsJ j (ins.map (·.cols)) with
  | error e => rfl
  | ok out => cases madeJ j ins out <;> rfl
 rw [hR]
 have HCJ := Lib.hid (fun out (h : colsJ j (ins.map (·.cols)) = .ok out) => cols_len h)
 have HMJ := Lib.hid (fun out rows (h : out.length = if j.code = 9 then 2 else 1) (h2 : madeJ j ins out = .ok rows) => made_len h h2)
 obtain ⟨CJ, hcj⟩ : ∃ C, colsJ j (ins.map (·.cols)) = C := ⟨_, rfl⟩
 rw [hcj] at hC hM HR1 HCJ
 obtain ⟨MJ, hmj⟩ : ∃ M, madeJ j ins = M := ⟨_, rfl⟩
 rw [hmj] at hM HR1 HMJ
 obtain ⟨CD, hcd⟩ : ∃ c, j.code = c := ⟨_, rfl⟩
 rw [hcd] at HCJ HMJ
 obtain ⟨at_, code, outs, js, cols, op, ⟨lc, lk, ln, lw⟩, ⟨rc, rk, rn, rw'⟩, retry⟩ := j
 obtain ⟨no, hno⟩ : ∃ n, outs.length = n := ⟨_, rfl⟩
 obtain ⟨nc, hnc⟩ : ∃ n, cols.length = n := ⟨_, rfl⟩
 have HC : Hid (∀ W, Keeps [] w W → ∀ AH ch, RdHeads W AH (ins.map (·.cols)) → Calls Tryz.prog 44 #[.agg #[.int .i64 at_, .int .i64 code, .slice Ao no co, .slice Ai ni ci, .slice Ac nc cc, .string (bs op), .string (bs lc), .int .i64 lk, .int .i64 ln, .string (bs lw), .string (bs rc), .int .i64 rk, .int .i64 rn, .string (bs rw'), .int .i64 retry], .slice AH ins.length ch] W fun e w' => ColsOut CJ e w' ∧ Keeps [] W w') := Lib.hid (by rw [← hno, ← hnc]; simp only [List.length_map] at hC; exact hC)
 have HM : Hid (∀ out, (∀ t ∈ ins, rightB t = true) → CJ = .ok out → ∀ W, Keeps [] w W → ∀ OA od, Calls Tryz.prog 45 #[.agg #[.int .i64 at_, .int .i64 code, .slice Ao no co, .slice Ai ni ci, .slice Ac nc cc, .string (bs op), .string (bs lc), .int .i64 lk, .int .i64 ln, .string (bs lw), .string (bs rc), .int .i64 rk, .int .i64 rn, .string (bs rw'), .int .i64 retry], .slice AT ins.length ct, .slice OA out.length od] W fun e w' => MadeOut (MJ out) e w' ∧ Keeps [] W w') := Lib.hid (by rw [← hno, ← hnc]; exact hM)
 show Calls _ _ #[.agg #[.int .i64 at_, .int .i64 code, .slice Ao outs.length co, .slice Ai ni ci, .slice Ac cols.length cc, .string (bs op), .string (bs lc), .int .i64 lk, .int .i64 ln, .string (bs lw), .string (bs rc), .int .i64 rk, .int .i64 rn, .string (bs rw'), .int .i64 retry], .slice AT ins.length ct] w _
 rw [hno, hnc]
 have HI := Lib.hid hI
 have HBD := Lib.hid hB
 clear hI hB hC hM hR hcj hmj hcd hno hnc
 have HK0 : Hid (Keeps [] w (w.alloc (.cells #[.int .i64 at_, .int .i64 code, .slice Ao no co, .slice Ai ni ci, .slice Ac nc cc, .string (bs op), .string (bs lc), .int .i64 lk, .int .i64 ln, .string (bs lw), .string (bs rc), .int .i64 rk, .int .i64 rn, .string (bs rw'), .int .i64 retry] 36))) := Lib.hid ((Keeps.refl _ _).alloc _)
 have HBX := Lib.hid (Blk.new w 36 #[.int .i64 at_, .int .i64 code, .slice Ao no co, .slice Ai ni ci, .slice Ac nc cc, .string (bs op), .string (bs lc), .int .i64 lk, .int .i64 ln, .string (bs lw), .string (bs rc), .int .i64 rk, .int .i64 rn, .string (bs rw'), .int .i64 retry])
 go_enter Tryz.func27, Tryz.ntmps27
 go_wp2
 obtain ⟨w2, hw2⟩ : ∃ w2, (w.alloc (.cells #[.int .i64 at_, .int .i64 code, .slice Ao no co, .slice Ai ni ci, .slice Ac nc cc, .string (bs op), .string (bs lc), .int .i64 lk, .int .i64 ln, .string (bs lw), .string (bs rc), .int .i64 rk, .int .i64 rn, .string (bs rw'), .int .i64 retry] 36)) = w2 := ⟨_, rfl⟩
 rw [hw2] at HK0 HBX ⊢
 obtain ⟨bx, hbx⟩ : ∃ bx, w.heap.size = bx := ⟨_, rfl⟩
 rw [hbx] at HBX ⊢
 clear hw2 hbx
 go_loopw [6, 17] (fun u i wx => ∃ (m : Nat) (v : Value), v = u ∧ m ≤ ins.length ∧ i = .int .i64 m ∧ Hid (HGath w wx w2.heap.size v ((ins.take m).map (·.cols))) ∧ Hid (∀ t ∈ ins.take m, rightB t = true) ∧ Keeps [] w2 wx) (fun _ i _ => ins.length - (intOf i).toNat)
 case atStart => exact ⟨0, _, rfl, Nat.zero_le _, rfl, HGath.nil _ _ _, by rw [List.take_zero]; exact Lib.hid (fun t ht => by cases ht), Keeps.refl _ _⟩
 case round =>
  obtain ⟨m, v, rfl, hm, rfl, HG, HRT, hk⟩ := hrel
  have HK := Lib.hid hk
  have HKW := Lib.hid (HK0.out.trans hk)
  clear hk
  by_cases hlt : m < ins.length
  ·obtain ⟨us, hul, hur, hui⟩ := HI.out
   have hux : m < us.length := by omega
   obtain ⟨hh, hw⟩ := hui m hux hlt
   obtain ⟨b7, o7, hBe, _, hb7, hcs⟩ := hur.open' (by omega) (by omega)
   have d7 := hcs _ _ (flat2_at us m hux).1
   have d8 := hcs _ _ (flat2_at us m hux).2
   rw [← Nat.add_assoc] at d8
   subst hBe
   have hmem : ins[m] ∈ ins := List.getElem_mem hlt
   have HH := Lib.hid hh
   have hsn : (ins.take (m + 1)).map (·.cols) = (ins.take m).map (·.cols) ++ [ins[m].cols] := by rw [List.take_succ_eq_append_getElem hlt, List.map_append]; rfl
   have HSN := Lib.hid hsn
   have HTA := Lib.hid (fun (h : rightB ins[m] = true) => take_all hlt HRT.out h)
   have hml : ((ins.take m).map (·.cols)).length = m := by rw [List.length_map, List.length_take]; omega
   generalize ins[m] = t at *
   obtain ⟨A, c, hu1, hc1, hA⟩ := hh
   obtain ⟨B, d, hu2, hd2, hBr⟩ := hw
   rw [hu1] at d7 HH
   rw [hu2] at d8
   have e7 := HKW.out.cell_of d7 (by simp)
   have e8 := HKW.out.cell_of d8 (by simp)
   have hTin : TabIn w t A B c d := ⟨hA, hc1, hBr, hd2, (HBD.out t hmem).names, (HBD.out t hmem).ln, (HBD.out t hmem).lm, (HBD.out t hmem).lr⟩
   have HRI := Lib.hid (fun W (q : Keeps [] w W) => (hTin.quiet q).right)
   have HE1 := Lib.hid (HR0.out t hmem)
   have hi0 : (0 : Int) ≤ (m : Int) := by omega
   have hi2 : (m : Int) < (ins.length : Int) := by omega
   clear hsn hul hur hui hcs d7 d8 hTin hA hBr hu1 hu2
   cases hr : rightB t with
   | false =>
    rw [hr] at HRI HE1
    have HF := Lib.hid (HE1.out rfl)
    clear hr HE1
    go_wp2_with fail
    refine (HRI.out _ (HKW.out.alloc _)).mono ?_
    rintro e w3 ⟨rfl, hk3⟩
    go_wp2
    go_ret2
    exact ⟨by rw [HF.out]; rfl, (HKW.out.alloc _).trans hk3⟩
   | true =>
    rw [hr] at HRI HTA
    have HTB := Lib.hid (HTA.out rfl)
    clear hr HE1 HTA
    go_wp2_with fail
    refine (HRI.out _ (HKW.out.alloc _)).mono ?_
    rintro e w3 ⟨rfl, hk3⟩
    have HKT := Lib.hid ((HK.out.alloc (.cells #[.slice A t.cols.length c, .slice B t.rows.length d] 25)).trans hk3)
    have x0 := hk3.cell_of (p := ⟨wr.heap.size, 0, none⟩) (v := .slice A t.cols.length c) ((Blk.new _ _ _).cell 0) (by simp)
    have x1 := hk3.cell_of (p := ⟨wr.heap.size, 1, none⟩) (v := .slice B t.rows.length d) ((Blk.new _ _ _).cell 1) (by simp)
    obtain ⟨hs, hsl, hso, hsi⟩ := HG.out
    rw [hml] at hso
    have HO := Lib.hid (own_keep (hso.alloc (.cells #[.slice A t.cols.length c, .slice B t.rows.length d] 25)) hk3 (fun _ _ => by simp))
    have HSI := Lib.hid hsi
    have HSL := Lib.hid hsl
    have HML := Lib.hid hml
    have hz3 : w2.heap.size ≤ w3.heap.size := HKT.out.size
    have hbd := Lib.hid (show m + 1 ≤ maxLen ∧ (m + 1) * 24 ≤ 140737488355328 by simp only [maxLen]; omega)
    clear hk3 hso hsi hsl hml
    go_wp2_with (at_builtin; (refine wpList_append_lies _ rfl _ _ 84 rfl w2.heap.size 22 ih _ 1 24 Tryz.underlying84 hih hhz0 hhz1 hhz2 rfl (by decide) _ m hs rfl (HO.out.alloc _) ⟨w3.heap.size, 0, none⟩ 1 1 [.slice A t.cols.length c] rfl rfl (World.news_of_block (heap_alloc_new _ _)) (by simp [Value.oneCell']) (by decide) hbd.out.1 hbd.out.2 (by rw [size_alloc]; omega) _ rfl ?_); intro gw cap2 w8 hown8 hgrow8 hat8 hlt8)
    have HK8 := Lib.hid ((HKT.out.alloc (.cells #[.slice A t.cols.length c] 22)).grown hgrow8 (fun g hg => .inr (HO.out.lt g hg).1))
    have HGN : Hid (HGath w w8 w2.heap.size (.slice (some ⟨gw, 0, none⟩) (m + 1) cap2) ((ins.take (m + 1)).map (·.cols))) := Lib.hid (by
     rw [HSN.out]
     have h := hgath_snoc (w := w) (W' := w8) (base := w2.heap.size) (gw := gw) (cap := cap2) HSL.out HSI.out HH.out (by rw [HML.out]; exact hown8)
     rw [HML.out] at h
     exact h)
    clear hown8 hgrow8 hat8 hlt8
    go_wp2
    go_roundw
    case rel => exact ⟨m + 1, _, rfl, by omega, by go_num, HGN, HTB, HK8.out⟩
    case measure => simp [intOf]; omega
  ·obtain rfl : m = ins.length := by omega
   have hrt := HRT.out
   rw [List.take_length] at hrt
   have hg := HG.out
   rw [List.take_length] at hg
   obtain ⟨AH, ch, hv, hch, hrh⟩ := hg.is HKW.out
   rw [List.length_map] at hv hch
   subst hv
   have HF1 := Lib.hid (HR1.out hrt)
   have HCW := Lib.hid (HC.out wr HKW.out AH ch hrh)
   obtain ⟨y0, y1, y2, y3, y4, y5, y6, y7, y8, y9, y10, y11, y12, y13, y14⟩ := box15 (HBX.out.keep HK.out (by simp))
   have HBB := Lib.hid (HBX.out.keep HK.out (by simp))
   have HRTT := Lib.hid hrt
   clear hrt hg hrh HR0 HR1 HC HG HRT
   cases CJ with
   | error x =>
    have HF2 : Hid (R = .error x) := HF1
    have HCE : Hid (Calls Tryz.prog 44 #[.agg #[.int .i64 at_, .int .i64 code, .slice Ao no co, .slice Ai ni ci, .slice Ac nc cc, .string (bs op), .string (bs lc), .int .i64 lk, .int .i64 ln, .string (bs lw), .string (bs rc), .int .i64 rk, .int .i64 rn, .string (bs rw'), .int .i64 retry], .slice AH ins.length ch] wr fun e w' => e = .returned (.tuple #[.slice none 0 0, .iface 71 (.int .i64 x)]) ∧ Keeps [] wr w') := HCW
    clear HF1 HCW
    go_wp2_with fail
    with_reducible refine HCE.out.mono ?_
    rintro e w3 ⟨rfl, hk3⟩
    go_wp2
    go_ret2
    exact ⟨by rw [HF2.out]; rfl, HKW.out.trans hk3⟩
   | ok out =>
    have HF2 : Hid (R = match MJ out with
     | .error e => .error e
     | .ok rows => tabsJ out rows) := HF1
    have HCE : Hid (Calls Tryz.prog 44 #[.agg #[.int .i64 at_, .int .i64 code, .slice Ao no co, .slice Ai ni ci, .slice Ac nc cc, .string (bs op), .string (bs lc), .int .i64 lk, .int .i64 ln, .string (bs lw), .string (bs rc), .int .i64 rk, .int .i64 rn, .string (bs rw'), .int .i64 retry], .slice AH ins.length ch] wr fun e w' => (∃ B d, e = .returned (.tuple #[.slice B out.length d, .nilIface]) ∧ out.length ≤ d ∧ RdHeads w' B out) ∧ Keeps [] wr w') := HCW
    have HOL := Lib.hid (HCJ.out out rfl)
    have HMO := Lib.hid (HM.out out HRTT.out rfl)
    have HML := Lib.hid (fun rows => HMJ.out out rows HOL.out)
    clear HF1 HCW HM HCJ HMJ HRTT
    go_wp2_with fail
    with_reducible refine HCE.out.mono ?_
    rintro e w3 ⟨⟨OA, od, rfl, hod, hoh⟩, hk3⟩
    have HK3 := Lib.hid (HKW.out.trans hk3)
    have HOH := Lib.hid hoh
    obtain ⟨z0, z1, z2, z3, z4, z5, z6, z7, z8, z9, z10, z11, z12, z13, z14⟩ := box15 (HBB.out.keep hk3 (by simp))
    have HMW := Lib.hid (HMO.out w3 HK3.out OA od)
    clear hk3 hoh HMO HCE y0 y1 y2 y3 y4 y5 y6 y7 y8 y9 y10 y11 y12 y13 y14
    generalize MJ out = MO at *
    cases MO with
    | error x =>
     have HF3 : Hid (R = .error x) := HF2
     have HME : Hid (Calls Tryz.prog 45 #[.agg #[.int .i64 at_, .int .i64 code, .slice Ao no co, .slice Ai ni ci, .slice Ac nc cc, .string (bs op), .string (bs lc), .int .i64 lk, .int .i64 ln, .string (bs lw), .string (bs rc), .int .i64 rk, .int .i64 rn, .string (bs rw'), .int .i64 retry], .slice AT ins.length ct, .slice OA out.length od] w3 fun e w' => e = .returned (.tuple #[.slice none 0 0, .iface 71 (.int .i64 x)]) ∧ Keeps [] w3 w') := HMW
     clear HF2 HMW HML
     go_wp2_with fail
     with_reducible refine HME.out.mono ?_
     rintro e w4 ⟨rfl, hk4⟩
     go_wp2
     go_ret2
     exact ⟨by rw [HF3.out]; rfl, HK3.out.trans hk4⟩
    | ok rows =>
     have HF3 : Hid (R = tabsJ out rows) := HF2
     have HME : Hid (Calls Tryz.prog 45 #[.agg #[.int .i64 at_, .int .i64 code, .slice Ao no co, .slice Ai ni ci, .slice Ac nc cc, .string (bs op), .string (bs lc), .int .i64 lk, .int .i64 ln, .string (bs lw), .string (bs rc), .int .i64 rk, .int .i64 rn, .string (bs rw'), .int .i64 retry], .slice AT ins.length ct, .slice OA out.length od] w3 fun e w' => (∃ B d, e = .returned (.tuple #[.slice B rows.length d, .nilIface]) ∧ rows.length ≤ d ∧ RdTabs w' B rows) ∧ Keeps [] w3 w') := HMW
     have HLE := Lib.hid (HML.out rows rfl)
     have hr2 : rows.length ≤ 2 := by
      have h1 := HLE.out
      have h2 := HOL.out
      split at h2 <;> omega
     clear HF2 HMW HML HOL
     go_wp2_with fail
     with_reducible refine HME.out.mono ?_
     rintro e w4 ⟨⟨RA, rd, rfl, hrd, hrr⟩, hk4⟩
     have HK4 := Lib.hid (HK3.out.trans hk4)
     have HRR := Lib.hid hrr
     have HO4 := Lib.hid (HOH.out.keep hk4)
     clear hk4 hrr HME z0 z1 z2 z3 z4 z5 z6 z7 z8 z9 z10 z11 z12 z13 z14 HOH
     go_wp2
     go_loopw [12, 52] (fun u i wx => ∃ (m : Nat) (v : Value), v = u ∧ m ≤ rows.length ∧ i = .int .i64 m ∧ Hid (TGath w4 wx w4.heap.size v (List.zipWith Tb.mk (out.take m) (rows.take m))) ∧ Hid (∀ i (h : i < rows.length), i < m → rows[i].length ≤ 60) ∧ Keeps [] w4 wx) (fun _ i _ => rows.length - (intOf i).toNat)
     case atStart => exact ⟨0, _, rfl, Nat.zero_le _, rfl, TGath.nil _ _ _, Lib.hid (fun i _ h => absurd h (by omega)), Keeps.refl _ _⟩
     case round =>
      obtain ⟨m, v, rfl, hm, rfl, HG, HSM, hk⟩ := hrel
      have HKX := Lib.hid hk
      have HKY := Lib.hid (HK4.out.trans hk)
      clear hk
      by_cases hlt : m < rows.length
      ·obtain ⟨us, hul, hur, hui⟩ := HRR.out
       have hux : m < us.length := by omega
       have hrw := hui m hux hlt
       obtain ⟨b7, o7, hBe, _, hb7, hcs⟩ := hur.open' (by omega) (by omega)
       have d7 := hcs (m * 1) us[m] (by rw [Nat.mul_one]; exact List.getElem?_eq_getElem hux)
       rw [Nat.mul_one] at d7
       subst hBe
       obtain ⟨us', hul', hur', hui'⟩ := HO4.out
       have hle := HLE.out
       have hux' : m < us'.length := by omega
       have hhd := hui' m hux' (by omega)
       obtain ⟨b9, o9, hBe', _, hb9, hcs'⟩ := hur'.open' (by omega) (by omega)
       have d9 := hcs' (m * 1) us'[m] (by rw [Nat.mul_one]; exact List.getElem?_eq_getElem hux')
       rw [Nat.mul_one] at d9
       subst hBe'
       have hz1 : List.zipWith Tb.mk (out.take (m + 1)) (rows.take (m + 1)) = List.zipWith Tb.mk (out.take m) (rows.take m) ++ [⟨out[m]'(by omega), rows[m]⟩] := by
        rw [List.take_succ_eq_append_getElem hlt, List.take_succ_eq_append_getElem (by omega : m < out.length), List.zipWith_append (by simp; omega)]
        rfl
       have HZ1 := Lib.hid hz1
       have hzl : (List.zipWith Tb.mk (out.take m) (rows.take m)).length = m := by simp; omega
       have HTB := Lib.hid (fun (h : 60 < rows[m].length) => tabs_bad (out := out) (by omega) hlt h)
       have HSN : Hid (rows[m].length ≤ 60 → ∀ i (h : i < rows.length), i < m + 1 → rows[i].length ≤ 60) := Lib.hid (fun h i hi hj => by
        by_cases he : i = m
        ·subst he; exact h
        ·exact HSM.out i hi (by omega))
       have hHH := hhd
       have hRW := hrw
       generalize hr0 : rows[m] = r at *
       generalize hl0 : out[m]'(by omega) = l at *
       obtain ⟨A, c, hu1, hc1, hA⟩ := hhd
       obtain ⟨B, d, hu2, hd2, hBr⟩ := hrw
       rw [hu1] at d9 hHH
       rw [hu2] at d7 hRW
       have HHH := Lib.hid hHH
       have HRW := Lib.hid hRW
       have e9 := HKX.out.cell_of d9 (by simp)
       have e7 := HKX.out.cell_of d7 (by simp)
       have hi0 : (0 : Int) ≤ (m : Int) := by omega
       have hi2 : (m : Int) < (rows.length : Int) := by omega
       have hi3 : (m : Int) < (out.length : Int) := by omega
       clear hz1 hul hur hui hcs d7 hul' hur' hui' hcs' d9 hA hBr hu1 hu2 hHH hRW hr0 hl0
       by_cases h60 : 60 < r.length
       ·have t60 : decide ((60 : Int) < (r.length : Int)) = true := decide_eq_true (by omega)
        have HF4 : Hid (R = .error 12) := Lib.hid (HF3.out.trans (HTB.out h60))
        clear h60 hle
        go_wp2
        go_ret2
        exact ⟨by rw [HF4.out]; rfl, HKY.out⟩
       ·have t60 : decide ((60 : Int) < (r.length : Int)) = false := decide_eq_false (by omega)
        have HSO := Lib.hid (HSN.out (by omega))
        obtain ⟨hs, hsl, hso, hsi⟩ := HG.out
        rw [hzl] at hso
        have HO := Lib.hid hso
        have HSI := Lib.hid hsi
        have HSL := Lib.hid hsl
        have HML := Lib.hid hzl
        have hz3 : w4.heap.size ≤ wr.heap.size := HKX.out.size
        have hbd := Lib.hid (show m + 1 ≤ maxLen ∧ (m + 1) * 48 ≤ 140737488355328 by simp only [maxLen]; omega)
        clear hso hsi hsl hzl h60 hle HTB HSN
        go_wp2_with (at_builtin; (refine wpList_append_lies _ rfl _ _ 60 rfl w4.heap.size 25 it _ 2 48 Tryz.underlying60 hit htz0 htz1 htz2 rfl (by decide) _ m (flat2 hs) rfl (HO.out.alloc _) ⟨wr.heap.size, 0, none⟩ 1 1 [.slice A l.length c, .slice B r.length d] rfl rfl (World.news_of_block (heap_alloc_new _ _)) (by simp [Value.oneCell']) (by decide) hbd.out.1 hbd.out.2 (by rw [size_alloc]; omega) _ rfl ?_); intro gw cap2 w8 hown8 hgrow8 hat8 hlt8)
        have HK8 := Lib.hid ((HKX.out.alloc (.cells #[.slice A l.length c, .slice B r.length d] 25)).grown hgrow8 (fun g hg => .inr (HO.out.lt g hg).1))
        have HGN : Hid (TGath w4 w8 w4.heap.size (.slice (some ⟨gw, 0, none⟩) (m + 1) cap2) (List.zipWith Tb.mk (out.take (m + 1)) (rows.take (m + 1)))) := Lib.hid (by
         rw [HZ1.out]
         have h := tgath_snoc (w := w4) (W' := w8) (base := w4.heap.size) (gw := gw) (cap := cap2) (t := ⟨l, r⟩) HSL.out HSI.out HHH.out HRW.out (by rw [HML.out]; exact hown8)
         rw [HML.out] at h
         exact h)
        clear hown8 hgrow8 hat8 hlt8
        go_wp2
        go_roundw
        case rel => exact ⟨m + 1, _, rfl, by omega, by go_num, HGN, HSO, HK8.out⟩
        case measure => simp [intOf]; omega
      ·obtain rfl : m = rows.length := by omega
       have hg := HG.out
       rw [List.take_length, ← HLE.out, List.take_length] at hg
       obtain ⟨TA, td, hv, htd, hrt⟩ := hg.is HKX.out
       have HF4 : Hid (R = .ok (List.zipWith Tb.mk out rows)) := Lib.hid (HF3.out.trans (tabs_good HLE.out (fun i hi => HSM.out i hi hi)))
       have HRT2 := Lib.hid hrt
       have hzz : (List.zipWith Tb.mk out rows).length = rows.length := by rw [List.length_zipWith, HLE.out, Nat.min_self]
       rw [hzz] at hv htd
       have HZZ := Lib.hid hzz
       have HTD := Lib.hid htd
       subst hv
       clear hg htd hrt HG HSM hzz
       go_wp2
       go_ret2
       exact ⟨by rw [HF4.out]; exact ⟨TA, td, by rw [HZZ.out]; rfl, by rw [HZZ.out]; exact HTD.out, HRT2.out⟩, HKY.out⟩
end Go.Proofs.YtpfkjejknlkkoaaGreatDoor
namespace Go.Proofs.YtpfkjejknlkkoaaGreatDoor
open Go.RowKit Go.BigFrame
attribute [local go_sem] bs_size bs_extract bs_append bs_toList
def OneOut (R : Option Tb) (e : Ending) (w' : World) : Prop := match R with
 | none => e = .returned (.tuple #[.agg #[.slice none 0 0, .slice none 0 0], .bool false])
 | some t => ∃ A c B d, e = .returned (.tuple #[.agg #[.slice A t.cols.length c, .slice B t.rows.length d], .bool true]) ∧ TbIs w' (.slice A t.cols.length c, .slice B t.rows.length d) t
theorem slice_toS1 (A : Option Addr) (W : World) : (Instr.slice 30 (.slice A 2 2) none (some (.int .i64 1)) none).run Tryz.prog W = .ok (.slice A 1 2) W := by
 have hT := Tryz.underlying30
 cases A with
 | none => go_simp
 | some a => go_simp
theorem rd_far {w : World} {g size n : Nat} {ty : TypeId} {A : Option Addr} {xs : List Value} (hB : Blk w g ty #[.slice none 0 0, .slice none 0 0]) (hs : 0 < size) (h : Rd w [] size A n xs) (hx : ∀ x ∈ xs, x ≠ .slice none 0 0) : Rd w [g] size A n xs := by
 refine ⟨h.1, fun hn => ?_⟩
 obtain ⟨ad, e, _, hl, hc⟩ := h.2 hn
 refine ⟨ad, e, fun hm => ?_, hl, hc⟩
 have hg : ad.block = g := by simpa using hm
 obtain ⟨b, o, e2, _, _, hc2⟩ := h.open' hn hs
 rw [e] at e2
 injection e2 with e2
 rw [e2] at hg
 simp only at hg
 subst hg
 have h0 : 0 < xs.length := by rw [h.1]; exact Nat.mul_pos hn hs
 have h1 := hc2 0 _ (List.getElem?_eq_getElem h0)
 rw [hB.cell] at h1
 have hin : xs[0] ∈ xs := List.getElem_mem h0
 match o, h1 with
 | 0, h1 => exact hx _ hin (by simpa using h1.symm)
 | 1, h1 => exact hx _ hin (by simpa using h1.symm)
 | o + 2, h1 => simp at h1
theorem TbIs.far {w w' : World} {g : Nat} {ty : TypeId} {u : Value × Value} {t : Tb} (hB : Blk w g ty #[.slice none 0 0, .slice none 0 0]) (hk : Keeps [g] w w') (hr : ∀ r ∈ t.rows, 1 ≤ r.length) (h : TbIs w u t) : TbIs w' u t := by
 obtain ⟨⟨A, c, e1, hc, hA⟩, ⟨B, d, e2, hd, us, hl, hu, hi⟩⟩ := h
 have key : ∀ {size n : Nat} {A : Option Addr} {xs : List Value}, 0 < size → Rd w [] size A n xs → (∀ x ∈ xs, x ≠ .slice none 0 0) → Rd w' [] size A n xs := fun hs h hx => ((rd_far hB hs h hx).keep hk).move (fun x hx => by cases hx)
 refine ⟨⟨A, c, e1, hc, key (by omega) hA (fun x hx => ?_)⟩, ⟨B, d, e2, hd, us, hl, key (by omega) hu (fun x hx => ?_), fun i h h' => ?_⟩⟩
 ·unfold csCells at hx
  obtain ⟨y, _, hy⟩ := List.mem_flatMap.1 hx
  simp only [cCells, List.mem_cons, List.not_mem_nil, or_false] at hy
  rcases hy with rfl | rfl <;> intro h <;> cases h
 ·obtain ⟨i, hi', rfl⟩ := List.getElem_of_mem hx
  obtain ⟨A', c', e, _⟩ := hi i hi' (by omega)
  rw [e]
  intro h
  injection h with _ h _
  have := hr (t.rows[i]'(by omega)) (List.getElem_mem _)
  omega
 ·obtain ⟨A', c', e, hc', hv⟩ := hi i h h'
  refine ⟨A', c', e, hc', key (by omega) hv (fun x hx => ?_)⟩
  unfold vsCells at hx
  obtain ⟨y, _, hy⟩ := List.mem_flatMap.1 hx
  simp only [vCells, List.mem_cons, List.not_mem_nil, or_false] at hy
  rcases hy with rfl | rfl | rfl <;> intro h <;> cases h
theorem rd_x (W : World) (n : Nat) (hn : W.heap.size = n) (t : TypeId) : Rd (W.alloc (.cells #[.string ⟨#[120]⟩, .string ⟨#[121]⟩] t)) [] 1 (some ⟨n, 0, none⟩) 1 (strs [[120]]) := by
 subst hn
 refine ⟨rfl, fun _ => ⟨_, rfl, by simp, (Blk.new _ _ _).lt, fun j u hu => ?_⟩⟩
 have hj : j = 0 := by
  have := (List.getElem?_eq_some_iff.1 hu).1
  simp [strs] at this
  omega
 subst hj
 rw [add_at, Nat.zero_add]
 rw [(Blk.new W t _).cell 0]
 exact hu
set_option maxHeartbeats 8000000 in
set_option maxRecDepth 40000 in
theorem one_any (j : Jb) (hc0 : 0 ≤ j.code) (hc9 : j.code < 9) (Ao : Option Addr) (co : Nat) (Ai : Option Addr) (ni ci : Nat) (Ac : Option Addr) (cc : Nat) (ins : List Tb) (AT : Option Addr) (ct : Nat) (w : World) (hN : ∀ t, oneJ j ins = some t → ∀ r ∈ t.rows, 1 ≤ r.length)
  (hD : ∀ W, Keeps [] w W → ∀ Ax, Rd W [] 1 Ax 1 (strs [[120]]) → Calls Tryz.prog 27 #[jAgg { j with outs := [[120]] } Ax 2 Ai ni ci Ac cc, .slice AT ins.length ct] W fun e w' => DoOut (doJ { j with outs := [[120]] } ins) e w' ∧ Keeps [] W w') :
  Calls Tryz.prog 7 #[jAgg j Ao co Ai ni ci Ac cc, .slice AT ins.length ct] w fun e w' => OneOut (oneJ j ins) e w' ∧ Keeps [] w w' := by
 have hq : j.code / 9 = 0 := by omega
 obtain ⟨R, hR⟩ : ∃ R, oneJ j ins = R := ⟨_, rfl⟩
 rw [hR] at hN ⊢
 have HN := Lib.hid hN
 clear hN
 have HR : Hid (R = match doJ { j with outs := [[120]] } ins with
  | .error _ => none
  | .ok out => if out.length = 1 then out.head? else none) := Lib.hid (by
  rw [← hR]
  unfold oneJ
  rw [hq, show (List.take (1 + Int.toNat 0) [[120], [121]] : List Bs) = [[120]] from rfl]
  cases doJ { j with outs := [[120]] } ins <;> rfl)
 clear hR
 obtain ⟨D, hd⟩ : ∃ D, doJ { j with outs := [[120]] } ins = D := ⟨_, rfl⟩
 rw [hd] at HR hD
 clear hd
 obtain ⟨at_, code, outs, js, cols, op, ⟨lc, lk, ln, lw⟩, ⟨rc, rk, rn, rw'⟩, retry⟩ := j
 simp only at hc0 hc9 hq
 obtain ⟨no, hno⟩ : ∃ n, outs.length = n := ⟨_, rfl⟩
 obtain ⟨nc, hnc⟩ : ∃ n, cols.length = n := ⟨_, rfl⟩
 have HD : Hid (∀ W, Keeps [] w W → ∀ Ax, Rd W [] 1 Ax 1 (strs [[120]]) → Calls Tryz.prog 27 #[.agg #[.int .i64 at_, .int .i64 code, .slice Ax 1 2, .slice Ai ni ci, .slice Ac nc cc, .string (bs op), .string (bs lc), .int .i64 lk, .int .i64 ln, .string (bs lw), .string (bs rc), .int .i64 rk, .int .i64 rn, .string (bs rw'), .int .i64 retry], .slice AT ins.length ct] W fun e w' => DoOut D e w' ∧ Keeps [] W w') := Lib.hid (by rw [← hnc]; exact hD)
 show Calls _ _ #[.agg #[.int .i64 at_, .int .i64 code, .slice Ao outs.length co, .slice Ai ni ci, .slice Ac cols.length cc, .string (bs op), .string (bs lc), .int .i64 lk, .int .i64 ln, .string (bs lw), .string (bs rc), .int .i64 rk, .int .i64 rn, .string (bs rw'), .int .i64 retry], .slice AT ins.length ct] w _
 rw [hno, hnc]
 clear hD hno hnc
 have hsl := slice_toS1
 go_enter Tryz.func7, Tryz.ntmps7
 go_wp2_with fail
 have hK0 : Keeps [] w (((w.alloc (.cells #[.int .i64 at_, .int .i64 code, .slice (some ⟨w.heap.size + 1 + 1, 0, none⟩) 1 2, .slice Ai ni ci, .slice Ac nc cc, .string (bs op), .string (bs lc), .int .i64 lk, .int .i64 ln, .string (bs lw), .string (bs rc), .int .i64 rk, .int .i64 rn, .string (bs rw'), .int .i64 retry] 36)).alloc (.cells #[.slice none 0 0, .slice none 0 0] 25)).alloc (.cells #[.string ⟨#[120]⟩, .string ⟨#[121]⟩] 9)) := (((Keeps.refl _ _).alloc _).alloc _).alloc _
 have HK0 := Lib.hid hK0
 have HRX := Lib.hid (rd_x ((w.alloc (.cells #[.int .i64 at_, .int .i64 code, .slice (some ⟨w.heap.size + 1 + 1, 0, none⟩) 1 2, .slice Ai ni ci, .slice Ac nc cc, .string (bs op), .string (bs lc), .int .i64 lk, .int .i64 ln, .string (bs lw), .string (bs rc), .int .i64 rk, .int .i64 rn, .string (bs rw'), .int .i64 retry] 36)).alloc (.cells #[.slice none 0 0, .slice none 0 0] 25)) (w.heap.size + 1 + 1) (by rw [size_alloc, size_alloc]) 9)
 have HBJ := Lib.hid (((Blk.new w 36 #[.int .i64 at_, .int .i64 code, .slice (some ⟨w.heap.size + 1 + 1, 0, none⟩) 1 2, .slice Ai ni ci, .slice Ac nc cc, .string (bs op), .string (bs lc), .int .i64 lk, .int .i64 ln, .string (bs lw), .string (bs rc), .int .i64 rk, .int .i64 rn, .string (bs rw'), .int .i64 retry]).alloc (.cells #[.slice none 0 0, .slice none 0 0] 25)).alloc (.cells #[.string ⟨#[120]⟩, .string ⟨#[121]⟩] 9))
 have HBR := Lib.hid ((Blk.new (w.alloc (.cells #[.int .i64 at_, .int .i64 code, .slice (some ⟨w.heap.size + 1 + 1, 0, none⟩) 1 2, .slice Ai ni ci, .slice Ac nc cc, .string (bs op), .string (bs lc), .int .i64 lk, .int .i64 ln, .string (bs lw), .string (bs rc), .int .i64 rk, .int .i64 rn, .string (bs rw'), .int .i64 retry] 36)) 25 #[.slice none 0 0, .slice none 0 0]).alloc (.cells #[.string ⟨#[120]⟩, .string ⟨#[121]⟩] 9))
 rw [size_alloc] at HBR
 have HDW := Lib.hid (HD.out _ HK0.out _ HRX.out)
 obtain ⟨w3, hw3⟩ : ∃ w3, (((w.alloc (.cells #[.int .i64 at_, .int .i64 code, .slice (some ⟨w.heap.size + 1 + 1, 0, none⟩) 1 2, .slice Ai ni ci, .slice Ac nc cc, .string (bs op), .string (bs lc), .int .i64 lk, .int .i64 ln, .string (bs lw), .string (bs rc), .int .i64 rk, .int .i64 rn, .string (bs rw'), .int .i64 retry] 36)).alloc (.cells #[.slice none 0 0, .slice none 0 0] 25)).alloc (.cells #[.string ⟨#[120]⟩, .string ⟨#[121]⟩] 9)) = w3 := ⟨_, rfl⟩
 rw [hw3] at HK0 HDW HBJ HBR ⊢
 have hzb : w.heap.size ≤ w.heap.size + 1 := by omega
 obtain ⟨bj, hbj⟩ : ∃ bj, w.heap.size = bj := ⟨_, rfl⟩
 have HLB : Hid (w.heap.size ≤ bj + 1) := Lib.hid (by omega)
 rw [hbj] at HBJ HBR HDW ⊢
 clear hw3 hK0 HRX HD hsl hbj hzb
 cases D with
 | error x =>
  have HR2 : Hid (R = none) := HR
  have HDE : Hid (Calls Tryz.prog 27 #[.agg #[.int .i64 at_, .int .i64 code, .slice (some ⟨bj + 1 + 1, 0, none⟩) 1 2, .slice Ai ni ci, .slice Ac nc cc, .string (bs op), .string (bs lc), .int .i64 lk, .int .i64 ln, .string (bs lw), .string (bs rc), .int .i64 rk, .int .i64 rn, .string (bs rw'), .int .i64 retry], .slice AT ins.length ct] w3 fun e w' => e = .returned (.tuple #[.slice none 0 0, .iface 71 (.int .i64 x)]) ∧ Keeps [] w3 w') := HDW
  clear HR HDW
  with_reducible refine HDE.out.mono ?_
  rintro e w4 ⟨rfl, hk4⟩
  have HB4 := Lib.hid (HBR.out.keep hk4 (by simp))
  have c0 : w4.cell? ⟨bj + 1, 0, none⟩ = some (.slice none 0 0) := HB4.out.cell 0
  have c1 : w4.cell? ⟨bj + 1, 1, none⟩ = some (.slice none 0 0) := HB4.out.cell 1
  have f0 := HB4.out.frozen 0
  have f1 := HB4.out.frozen 1
  have HK4 := Lib.hid (HK0.out.trans hk4)
  clear hk4
  go_wp2
  refine bodyPost_ret (v := .tuple #[.agg #[.slice none 0 0, .slice none 0 0], .bool false]) (by simp [results, Tryz.results7, go_sem, c0, c1]) rfl ⟨by rw [HR2.out]; rfl, ?_⟩
  exact (HK4.out.setCell (.inr HLB.out) _).setCell (.inr HLB.out) _
 | ok out =>
  have HR2 : Hid (R = if out.length = 1 then out.head? else none) := HR
  have HDE : Hid (Calls Tryz.prog 27 #[.agg #[.int .i64 at_, .int .i64 code, .slice (some ⟨bj + 1 + 1, 0, none⟩) 1 2, .slice Ai ni ci, .slice Ac nc cc, .string (bs op), .string (bs lc), .int .i64 lk, .int .i64 ln, .string (bs lw), .string (bs rc), .int .i64 rk, .int .i64 rn, .string (bs rw'), .int .i64 retry], .slice AT ins.length ct] w3 fun e w' => (∃ B d, e = .returned (.tuple #[.slice B out.length d, .nilIface]) ∧ out.length ≤ d ∧ RdTbs w' B out) ∧ Keeps [] w3 w') := HDW
  clear HR HDW
  with_reducible refine HDE.out.mono ?_
  rintro e w4 ⟨⟨B, d, rfl, hd, hrd⟩, hk4⟩
  have HB4 := Lib.hid (HBR.out.keep hk4 (by simp))
  have c0 : w4.cell? ⟨bj + 1, 0, none⟩ = some (.slice none 0 0) := HB4.out.cell 0
  have c1 : w4.cell? ⟨bj + 1, 1, none⟩ = some (.slice none 0 0) := HB4.out.cell 1
  have f0 := HB4.out.frozen 0
  have f1 := HB4.out.frozen 1
  have j2 : w4.cell? ⟨bj, 2, none⟩ = some (.slice (some ⟨bj + 1 + 1, 0, none⟩) 1 2) := (HBJ.out.keep hk4 (by simp)).cell 2
  have HK4 := Lib.hid (HK0.out.trans hk4)
  clear hk4
  by_cases h1 : out.length = 1
  ·have t1 : ((out.length : Int) != 1) = false := by rw [h1]; rfl
   obtain ⟨t, rfl⟩ : ∃ t, out = [t] := by
    match out, h1 with
    | [t], _ => exact ⟨t, rfl⟩
   have HR3 : Hid (R = some t) := HR2
   obtain ⟨us, hul, hur, hui⟩ := hrd
   have h0 : 0 < us.length := by rw [hul]; simp
   obtain ⟨b5, o5, hB, _, hb5, hcs⟩ := hur.open' (by simp) (by omega)
   have d0 := hcs _ _ (flat2_at us 0 h0).1
   have d1 := hcs _ _ (flat2_at us 0 h0).2
   have hti := hui 0 h0 (by simp)
   obtain ⟨A1, c1', hu1, hc1, hA⟩ := hti.1
   obtain ⟨A2, c2', hu2, hc2, hA2⟩ := hti.2
   have hti' := hti
   simp only [List.getElem_cons_zero] at hu1 hu2 hti'
   rw [hu1] at d0
   rw [hu2] at d1
   simp only [Nat.zero_mul, Nat.zero_add, Nat.add_zero] at d0 d1
   have HTI : Hid (TbIs w4 (.slice A1 t.cols.length c1', .slice A2 t.rows.length c2') t) := Lib.hid (by
    have : us[0] = (.slice A1 t.cols.length c1', .slice A2 t.rows.length c2') := Prod.ext hu1 hu2
    rw [← this]; exact hti')
   subst hB
   clear hti hti' hu1 hu2 hul hur hui hcs hA hA2 h1 HR2 hd h0
   go_wp2
   refine bodyPost_ret (v := .tuple #[.agg #[.slice A1 t.cols.length c1', .slice A2 t.rows.length c2'], .bool true]) (by simp [results, Tryz.results7, go_sem, c0, c1]) rfl ⟨?_, ?_⟩
   ·rw [HR3.out]
    exact ⟨_, _, _, _, rfl, HTI.out.far HB4.out (((Keeps.refl [bj + 1] w4).setCell (.inl (by simp)) _).setCell (.inl (by simp)) _) (HN.out t HR3.out)⟩
   ·exact (HK4.out.setCell (.inr HLB.out) _).setCell (.inr HLB.out) _
  ·have t1 : ((out.length : Int) != 1) = true := by rw [bne_iff_ne]; omega
   have HR3 : Hid (R = none) := Lib.hid (by rw [HR2.out, if_neg h1])
   clear HR2 h1 hrd hd
   go_wp2
   refine bodyPost_ret (v := .tuple #[.agg #[.slice none 0 0, .slice none 0 0], .bool false]) (by simp [results, Tryz.results7, go_sem, c0, c1]) rfl ⟨by rw [HR3.out]; rfl, ?_⟩
   exact (HK4.out.setCell (.inr HLB.out) _).setCell (.inr HLB.out) _
end Go.Proofs.YtpfkjejknlkkoaaGreatDoor
