/- ops.made: Project. ops.Do and one at Set, Project, Union, Distinct. OpsOnce as plain data: distinct once is distinct twice; all columns, picked, are the table. No program in sight. -/
import Derived.Test.YtpfkjejknlkkoaaGreatDoorOsoM16
import Derived.Test.YtpfkjejknlkkoaaGreatDoorOsoM27
import Derived.Test.YtpfkjejknlkkoaaGreatDoorOsoM28
import Derived.Test.YtpfkjejknlkkoaaGreatDoorOsoM25
set_option linter.unusedSimpArgs false
set_option linter.unusedVariables false
namespace Go.Proofs.YtpfkjejknlkkoaaGreatDoor
open Go.RowKit Go.BigFrame
attribute [local go_sem] bs_size bs_extract bs_append bs_toList
attribute [local go_sem] KW.cell
def pickV (cs : List Cl) (r : List Vl) (n : Bs) : Vl := match colIx cs n with
 | none => zV
 | some k => r.getD k zV
theorem map_take_succ {α β : Type} (f : α → β) (l : List α) (m : Nat) (h : m < l.length) : (l.map f).take (m + 1) = (l.map f).take m ++ [f l[m]] := by
 rw [List.take_succ_eq_append_getElem (by simpa using h), List.getElem_map]
set_option maxHeartbeats 4000000 in
set_option maxRecDepth 40000 in
theorem made_3 (t : Tb) (OA : Option Addr) (no od : Nat) (b o : Nat) (nt ct : Nat) (A B : Option Addr) (c d : Nat) (hnt : 1 ≤ nt) (at_ retry lk ln rk rn : Int) (outs cols : List Bs) (op lc lw rc rw' : Bs) (Ao : Option Addr) (co : Nat) (Ai : Option Addr) (ni ci : Nat) (Ac : Option Addr) (cc : Nat) (w : World)
  (hd0 : w.cell? ⟨b, o, none⟩ = some (.slice A t.cols.length c)) (hd1 : w.cell? ⟨b, o + 1, none⟩ = some (.slice B t.rows.length d)) (hT : TabIn w t A B c d) (hrl : ∀ r ∈ t.rows, r.length = t.cols.length) (hpk : ∀ n ∈ cols, ∃ k, colIx t.cols n = some k) (hcols : Rd w [] 1 Ac cols.length (strs cols)) (hcl : cols.length ≤ 100) :
  Calls Tryz.prog 45 #[.agg #[.int .i64 at_, .int .i64 3, .slice Ao outs.length co, .slice Ai ni ci, .slice Ac cols.length cc, .string (bs op), .string (bs lc), .int .i64 lk, .int .i64 ln, .string (bs lw), .string (bs rc), .int .i64 rk, .int .i64 rn, .string (bs rw'), .int .i64 retry], .slice (some ⟨b, o, none⟩) nt ct, .slice OA no od] w fun e w' => MadeOut (.ok [t.rows.map fun r => cols.map (pickV t.cols r)]) e w' ∧ Keeps [] w w' := by
 obtain ⟨ir, hir, hrz0, hrz1, hrz2⟩ := info_parts rinfo
 obtain ⟨iv, hiv, hvz0, hvz1, hvz2⟩ := info_parts vinfo
 have hi1 : (0 : Int) < (nt : Int) := by omega
 have HT := Lib.hid hT
 have hz0 : b < w.heap.size := World.block_lt_of_cell? _ _ hd0
 have HK0 : Hid (Keeps [] w ((w.alloc (.cells #[.int .i64 at_, .int .i64 3, .slice Ao outs.length co, .slice Ai ni ci, .slice Ac cols.length cc, .string (bs op), .string (bs lc), .int .i64 lk, .int .i64 ln, .string (bs lw), .string (bs rc), .int .i64 rk, .int .i64 rn, .string (bs rw'), .int .i64 retry] 36)).alloc (.cells #[.slice A t.cols.length c, .slice B t.rows.length d] 25))) := Lib.hid (((Keeps.refl _ _).alloc _).alloc _)
 have HBX := Lib.hid (Blk.alloc (Blk.new w 36 #[.int .i64 at_, .int .i64 3, .slice Ao outs.length co, .slice Ai ni ci, .slice Ac cols.length cc, .string (bs op), .string (bs lc), .int .i64 lk, .int .i64 ln, .string (bs lw), .string (bs rc), .int .i64 rk, .int .i64 rn, .string (bs rw'), .int .i64 retry]) (.cells #[.slice A t.cols.length c, .slice B t.rows.length d] 25))
 have HBT := Lib.hid (Blk.new (w.alloc (.cells #[.int .i64 at_, .int .i64 3, .slice Ao outs.length co, .slice Ai ni ci, .slice Ac cols.length cc, .string (bs op), .string (bs lc), .int .i64 lk, .int .i64 ln, .string (bs lw), .string (bs rc), .int .i64 rk, .int .i64 rn, .string (bs rw'), .int .i64 retry] 36)) 25 #[.slice A t.cols.length c, .slice B t.rows.length d])
 rw [size_alloc] at HBT
 have hlm := hT.lm
 have HRL := Lib.hid hrl
 have HPK := Lib.hid hpk
 have HCO := Lib.hid hcols
 have HF0 := Lib.hid (fun (nm : Bs) W (q : Keeps [] w W) => find_any t.cols nm A c W (hT.cols.keep q) hT.ln)
 have hln := hT.ln
 obtain ⟨nC, hnC⟩ : ∃ n, cols.length = n := ⟨_, rfl⟩
 have HNC := Lib.hid hnC
 rw [hnC] at HK0 HBX HBT hcl ⊢
 clear hT hrl hpk hcols hnC
 go_enter Tryz.func45, Tryz.ntmps45
 go_wp2
 obtain ⟨w2, hw2⟩ : ∃ w2, ((w.alloc (.cells #[.int .i64 at_, .int .i64 3, .slice Ao outs.length co, .slice Ai ni ci, .slice Ac nC cc, .string (bs op), .string (bs lc), .int .i64 lk, .int .i64 ln, .string (bs lw), .string (bs rc), .int .i64 rk, .int .i64 rn, .string (bs rw'), .int .i64 retry] 36)).alloc (.cells #[.slice A t.cols.length c, .slice B t.rows.length d] 25)) = w2 := ⟨_, rfl⟩
 rw [hw2] at HK0 HBX HBT ⊢
 obtain ⟨bx, hbx⟩ : ∃ bx, w.heap.size = bx := ⟨_, rfl⟩
 rw [hbx] at HBX HBT ⊢
 clear hw2 hbx hd0 hd1
 go_loopw [13, 76] (fun u i wx => ∃ (m : Nat) (v : Value), v = u ∧ m ≤ t.rows.length ∧ i = .int .i64 m ∧ Hid (Rws wx w2.heap.size v ((t.rows.take m).map fun r => cols.map (pickV t.cols r))) ∧ Keeps [] w2 wx) (fun _ i _ => t.rows.length - (intOf i).toNat)
 case atStart => exact ⟨0, _, rfl, Nat.zero_le _, rfl, Rws.nil _ _, Keeps.refl _ _⟩
 case round =>
  obtain ⟨m, v, rfl, hm, rfl, HG, hk⟩ := hrel
  have HK := Lib.hid hk
  have HKW := Lib.hid (HK0.out.trans hk)
  clear hk
  by_cases hlt : m < t.rows.length
  ·obtain ⟨us, hul, hur, hui⟩ := HT.out.rows
   have hux : m < us.length := by omega
   have hrw := hui m hux hlt
   obtain ⟨b7, o7, hBe, _, hb7, hcs⟩ := hur.open' (by omega) (by omega)
   have d7 := hcs (m * 1) us[m] (by rw [Nat.mul_one]; exact List.getElem?_eq_getElem hux)
   rw [Nat.mul_one] at d7
   have hmem : t.rows[m] ∈ t.rows := List.getElem_mem hlt
   have hsn : (t.rows.take (m + 1)).map (fun r => cols.map (pickV t.cols r)) = (t.rows.take m).map (fun r => cols.map (pickV t.cols r)) ++ [cols.map (pickV t.cols t.rows[m])] := by rw [List.take_succ_eq_append_getElem hlt, List.map_append]; rfl
   have hln2 : ((t.rows.take m).map (fun r => cols.map (pickV t.cols r))).length = m := by rw [List.length_map, List.length_take]; omega
   have HSN := Lib.hid hsn
   have HLN2 := Lib.hid hln2
   have hrr := HRL.out _ hmem
   generalize t.rows[m] = r at *
   obtain ⟨Ar, cr, hu, hcr, hrd⟩ := hrw
   rw [hu] at d7
   have HRD := Lib.hid hrd
   have HRR := Lib.hid hrr
   have d8 := HKW.out.cell_of d7 (by simp)
   subst hBe
   have y4 : wr.cell? ⟨bx, 4, none⟩ = some (.slice Ac nC cc) := HK.out.cell_of (HBX.out.cell 4) (by simp)
   have hlb : bx < wr.heap.size := World.block_lt_of_cell? _ _ y4
   clear hsn hu hul hur hui hcs d7 hrd hln2 hmem hrr
   go_wp2
   obtain ⟨w8, rfl⟩ : ∃ w8 : World, w8 = wr := ⟨_, rfl⟩
   go_loopw [16, 83] (fun u i wx => ∃ (m2 : Nat) (v2 : Value), v2 = u ∧ m2 ≤ nC ∧ i = .int .i64 m2 ∧ wx.ownsRow w8.heap.size 32 3 v2 m2 (vsCells ((cols.map (pickV t.cols r)).take m2)) ∧ Keeps [] w8 wx) (fun _ i _ => nC - (intOf i).toNat)
   case atStart => exact ⟨0, _, rfl, Nat.zero_le _, rfl, World.ownsRow_nil _ _ _ _, Keeps.refl _ _⟩
   case round =>
    obtain ⟨m2, v2, rfl, hm2, rfl, hown, hk2⟩ := hrel
    have HO2 := Lib.hid hown
    have HK2 := Lib.hid hk2
    have HKX := Lib.hid (HKW.out.trans hk2)
    clear hown hk2
    by_cases hlt2 : m2 < nC
    ·have hlc : m2 < cols.length := by rw [HNC.out]; exact hlt2
     obtain ⟨b9, o9, hAc, _, hb9, hcs9⟩ := HCO.out.open' (by omega) (by omega)
     have e0 := HKX.out.cell_of (hcs9 m2 _ (strs_at' cols m2 hlc)) (by simp)
     obtain ⟨k, hk⟩ := HPK.out cols[m2] (List.getElem_mem hlc)
     have HFN := Lib.hid (HF0.out cols[m2])
     rw [hk] at HFN
     have hkl : k < r.length := by rw [HRR.out]; exact (List.findIdx?_eq_some_iff_getElem.1 hk).1
     have hgd : pickV t.cols r cols[m2] = r[k] := by
      unfold pickV
      rw [hk]
      simp only
      rw [List.getD_eq_getElem?_getD, List.getElem?_eq_getElem hkl]
      rfl
     have HTS : Hid (vsCells ((cols.map (pickV t.cols r)).take (m2 + 1)) = vsCells ((cols.map (pickV t.cols r)).take m2) ++ [.int .i64 r[k].kind, .int .i64 r[k].num, .string (bs r[k].word)]) := Lib.hid (by
      rw [map_take_succ _ _ _ hlc, hgd, vsCells_snoc])
     obtain ⟨b6, o6, hAr, _, hb6, hcs6⟩ := HRD.out.open' (by omega) (by omega)
     obtain ⟨x0, x1, x2⟩ := vsCells_at r k hkl
     have f0 := HKX.out.cell_of (hcs6 _ _ x0) (by simp)
     have f1 := HKX.out.cell_of (hcs6 _ _ x1) (by simp)
     have f2 := HKX.out.cell_of (hcs6 _ _ x2) (by simp)
     rw [← Nat.add_assoc] at f1 f2
     have HF012 := Lib.hid (show wr.cell? ⟨b6, o6 + k * 3, none⟩ = _ ∧ wr.cell? ⟨b6, o6 + k * 3 + 1, none⟩ = _ ∧ wr.cell? ⟨b6, o6 + k * 3 + 2, none⟩ = _ from ⟨f0, f1, f2⟩)
     have z0 : wr.cell? ⟨bx + 1, 0, none⟩ = some (.slice A t.cols.length c) := (HK.out.trans HK2.out).cell_of (HBT.out.cell 0) (by simp)
     have hi3 : (0 : Int) ≤ (k : Int) := by omega
     have hi4 : (k : Int) < (r.length : Int) := by omega
     subst hAc hAr
     clear x0 x1 x2 hcs6 hcs9 hgd f0 f1 f2 hk
     generalize cols[m2] = nm at *
     generalize r[k] = xv at *
     have hbd := Lib.hid (show m2 + 1 ≤ maxLen ∧ (m2 + 1) * 32 ≤ 140737488355328 by simp only [maxLen]; omega)
     go_wp2_with fail
     refine (HFN.out _ HKX.out).mono ?_
     rintro e w5 ⟨rfl, hk5⟩
     simp only [optI]
     have f0 := hk5.cell_of HF012.out.1 (by simp)
     have f1 := hk5.cell_of HF012.out.2.1 (by simp)
     have f2 := hk5.cell_of HF012.out.2.2 (by simp)
     have HO5 := Lib.hid (own_keep HO2.out hk5 (fun _ _ => by simp))
     have HK5 := Lib.hid (HK2.out.trans hk5)
     have hz5 := HK5.out.size
     clear hk5
     go_wp2_with (at_builtin; (refine wpList_append_lies _ rfl _ _ 41 rfl w8.heap.size 32 iv _ 3 32 Tryz.underlying41 hiv hvz0 hvz1 hvz2 rfl (by decide) _ m2 (vsCells ((cols.map (pickV t.cols r)).take m2)) rfl (HO5.out.alloc _) ⟨w5.heap.size, 0, none⟩ 1 1 [.int .i64 xv.kind, .int .i64 xv.num, .string (bs xv.word)] rfl rfl (World.news_of_block (heap_alloc_new _ _)) (by simp [Value.oneCell']) (by decide) hbd.out.1 hbd.out.2 (by rw [size_alloc]; omega) _ rfl ?_); intro gw cap2 w9 hown9 hgrow9 hat9 hlt9)
     have HK9 := Lib.hid ((HK5.out.alloc (.cells #[.int .i64 xv.kind, .int .i64 xv.num, .string (bs xv.word)] 32)).grown hgrow9 (fun g hg => .inr (HO5.out.lt g hg).1))
     rw [← HTS.out] at hown9
     have HO9 := Lib.hid hown9
     clear hown9 hgrow9 hat9 hlt9
     go_wp2
     go_roundw
     case rel => exact ⟨m2 + 1, _, rfl, by omega, by go_num, HO9.out, HK9.out⟩
     case measure => simp [intOf]; omega
    ·obtain rfl : m2 = nC := by omega
     have ho := HO2.out
     rw [List.take_of_length_le (by rw [List.length_map, HNC.out]; exact Nat.le_refl _)] at ho
     obtain ⟨A6, c6, hv6, _, _⟩ := own_rd ho
     subst hv6
     have HO6 : Hid (wr.ownsRow w2.heap.size 32 3 (.slice A6 m2 c6) (cols.map (pickV t.cols r)).length (vsCells (cols.map (pickV t.cols r)))) := Lib.hid (by
      rw [List.length_map, HNC.out]
      exact own_base ho HK.out.size)
     have HG6 := Lib.hid (HG.out.keep HK2.out)
     obtain ⟨hs, hsl, hso, hsi⟩ := HG6.out
     have HSO := Lib.hid hso
     rw [HLN2.out] at hso
     have HO := Lib.hid hso
     have HSI := Lib.hid hsi
     have HSL := Lib.hid hsl
     have hz3 : w2.heap.size ≤ wr.heap.size := Nat.le_trans HK.out.size HK2.out.size
     have hbd := Lib.hid (show m + 1 ≤ maxLen ∧ (m + 1) * 24 ≤ 140737488355328 by simp only [maxLen]; omega)
     clear hso hsi hsl ho HO2 y4 d8 hlb
     go_wp2_with (at_builtin; (refine wpList_append_lies _ rfl _ _ 23 rfl w2.heap.size 41 ir _ 1 24 Tryz.underlying23 hir hrz0 hrz1 hrz2 rfl (by decide) _ m hs rfl (HO.out.alloc _) ⟨wr.heap.size, 0, none⟩ 1 1 [.slice A6 m2 c6] rfl rfl (World.news_of_block (heap_alloc_new _ _)) (by simp [Value.oneCell']) (by decide) hbd.out.1 hbd.out.2 (by rw [size_alloc]; omega) _ rfl ?_); intro gw cap2 w9 hown9 hgrow9 hat9 hlt9)
     have HK9 := Lib.hid (((HK.out.trans HK2.out).alloc (.cells #[.slice A6 m2 c6] 41)).grown hgrow9 (fun g hg => .inr (HO.out.lt g hg).1))
     have HGN : Hid (Rws w9 w2.heap.size (.slice (some ⟨gw, 0, none⟩) (m + 1) cap2) ((t.rows.take (m + 1)).map fun r => cols.map (pickV t.cols r))) := Lib.hid (by
      rw [HSN.out]
      have h := rws_snoc (W := wr) (W' := w9) (base := w2.heap.size) (gw := gw) (cap := cap2) HSL.out HSI.out HSO.out HO6.out hgrow9 (by rw [HLN2.out]; exact hown9)
      rw [HLN2.out] at h
      exact h)
     clear hown9 hgrow9 hat9 hlt9
     go_wp2
     go_roundw
     case rel => exact ⟨m + 1, _, rfl, by omega, by go_num, HGN, HK9.out⟩
     case measure => simp [intOf]; omega
  ·obtain rfl : m = t.rows.length := by omega
   have hg := HG.out
   rw [List.take_length] at hg
   obtain ⟨B6, d6, hv, hd6, hrd⟩ := hg.rd
   subst hv
   have HRI : Hid (RowsIs wr (.slice B6 (t.rows.map fun r => cols.map (pickV t.cols r)).length d6) (t.rows.map fun r => cols.map (pickV t.cols r))) := Lib.hid ⟨B6, d6, rfl, hd6, hrd⟩
   have hll : (t.rows.map fun r => cols.map (pickV t.cols r)).length = t.rows.length := List.length_map ..
   rw [hll] at HRI
   clear hg hd6 hrd HG
   simp only [List.length_map]
   clear hll
   go_wp2
   go_ret2
   exact ⟨⟨_, 1, rfl, Nat.le_refl _, tabs_one HRI.out _⟩, HKW.out.alloc _⟩
end Go.Proofs.YtpfkjejknlkkoaaGreatDoor
namespace Go.Proofs.YtpfkjejknlkkoaaGreatDoor
open Go.RowKit
theorem colsJ_2 {j : Jb} {ins : List (List Cl)} {out : List (List Cl)} (h2 : j.code = 2) (h : colsJ j ins = .ok out) : setJ j (ins.getD 0 []) = .ok out := by
 unfold colsJ at h
 by_cases hbad : (sizesN j.code).1 = 0 ∨ ins.length ≠ (sizesN j.code).1 ∨ j.outs.length ≠ (sizesN j.code).2
 ·rw [if_pos hbad] at h; cases h
 ·rw [if_neg hbad, if_neg (by omega), if_pos h2] at h; exact h
theorem colsJ_3 {j : Jb} {ins : List (List Cl)} {out : List (List Cl)} (h3 : j.code = 3) (h : colsJ j ins = .ok out) : pickedJ j (ins.getD 0 []) = .ok out := by
 unfold colsJ at h
 by_cases hbad : (sizesN j.code).1 = 0 ∨ ins.length ≠ (sizesN j.code).1 ∨ j.outs.length ≠ (sizesN j.code).2
 ·rw [if_pos hbad] at h; cases h
 ·rw [if_neg hbad, if_neg (by omega), if_neg (by omega), if_pos (.inl h3)] at h; exact h
set_option maxRecDepth 40000 in
theorem do_four (j : Jb) (hcode : j.code = 2 ∨ j.code = 3 ∨ j.code = 5 ∨ j.code = 6) (Ao : Option Addr) (co : Nat) (Ai : Option Addr) (ni ci : Nat) (Ac : Option Addr) (cc : Nat) (ins : List Tb) (AT : Option Addr) (ct : Nat) (w : World) (hE : OEnv w) (hJ : JobIn w j Ao co Ac cc) (hI : RdTbs w AT ins) (hB : ∀ t ∈ ins, TbB t) (hl : ins.length ≤ 4294967296) :
  Calls Tryz.prog 27 #[jAgg j Ao co Ai ni ci Ac cc, .slice AT ins.length ct] w fun e w' => DoOut (doJ j ins) e w' ∧ Keeps [] w w' := by
 refine do_any j Ao co Ai ni ci Ac cc ins AT ct w hI hB hl (fun W q AH ch hH => ?_) (fun out hr hc W q OA od => ?_)
 ·refine cols_any j Ao co Ai ni ci Ac cc (ins.map (·.cols)) AH ch W (hE.quiet q).c (hJ.quiet q) hH (fun l hm => ?_) (by omega) (fun h => by omega)
  obtain ⟨t, ht, rfl⟩ := List.mem_map.1 hm
  exact (hB t ht).ln
 ·have hsz := sizes_of hc
  rw [List.length_map] at hsz
  rcases hcode with h2 | h3 | h5 | h6
  ·have h1 : ins.length = 1 := by rw [hsz, h2]; rfl
   obtain ⟨t, rfl⟩ : ∃ t, ins = [t] := by
    match ins, h1 with
    | [t], _ => exact ⟨t, rfl⟩
   have hrt : rightB t = true := hr t (by simp)
   have hcj : setJ j t.cols = .ok out := colsJ_2 h2 hc
   obtain ⟨⟨k, h10, h11, h12, h13, h14, h15⟩, _⟩ := set_ok.1 hcj
   obtain ⟨b, o, A1, c1, A2, c2, rfl, d0, d1, hT⟩ := (hI.keep q).first (k := 0) (by simp) rfl (hB t (by simp))
   rw [Nat.zero_mul, Nat.add_zero] at d0 d1
   obtain ⟨nm, hnm⟩ : ∃ nm, j.cols = [nm] := by
    match hj : j.cols, h10 with
    | [nm], _ => exact ⟨nm, rfl⟩
   have hcR : Rd W [] 1 Ac 1 (strs [nm]) := by
    have := hJ.cols.keep q
    rw [hnm] at this
    exact this
   have hk : colIx t.cols nm = some k := by rw [hnm] at h12; exact h12
   have hmj : madeJ j [t] out = optE (changeGo j t t.rows []) := by
    rw [madeJ_of (by omega) (by omega) (by omega)]
    unfold madeO optE
    simp only
    rw [if_neg (by omega), if_pos h2]
    rfl
   rw [hmj]
   have hch : ∀ V, Keeps [] W V → Calls Tryz.prog 65 #[jAgg j Ao co Ai ni ci Ac cc, .agg #[.slice A1 t.cols.length c1, .slice A2 t.rows.length c2]] V fun e w' => ChgOut (changeGo j t t.rows []) e w' ∧ Keeps [] V w' := fun V qv =>
    changed_any j t k nm A1 A2 c1 c2 Ao co Ai ni ci Ac cc V (hT.quiet qv) hnm hk (hcR.keep qv) (row_len hrt) (argOk_kind hrt (by rw [h14]; decide)) (argOk_kind hrt (by rw [h15]; decide)) (fun r hm => arg_int hrt h14 hm) (fun r hm => arg_int hrt h15 hm)
   generalize changeGo j t t.rows [] = CG at *
   obtain ⟨at_, code, outs, js, cols, op, ⟨lc, lk, ln, lw⟩, ⟨rc, rk, rn, rw'⟩, retry⟩ := j
   simp only at h2
   subst h2
   exact made_2 t OA out.length od b o 1 ct A1 A2 c1 c2 (by omega) at_ retry lk ln rk rn outs cols op lc lw rc rw' Ao co Ai ni ci Ac cc W d0 d1 hT CG hch
  ·have h1 : ins.length = 1 := by rw [hsz, h3]; rfl
   obtain ⟨t, rfl⟩ : ∃ t, ins = [t] := by
    match ins, h1 with
    | [t], _ => exact ⟨t, rfl⟩
   have hrt : rightB t = true := hr t (by simp)
   have hcj : pickedJ j t.cols = .ok out := colsJ_3 h3 hc
   obtain ⟨⟨_, h11, h12, _⟩, _⟩ := picked_ok.1 hcj
   obtain ⟨b, o, A1, c1, A2, c2, rfl, d0, d1, hT⟩ := (hI.keep q).first (k := 0) (by simp) rfl (hB t (by simp))
   rw [Nat.zero_mul, Nat.add_zero] at d0 d1
   have hmj : madeJ j [t] out = .ok [t.rows.map fun r => j.cols.map (pickV t.cols r)] := by
    rw [madeJ_of (by omega) (by omega) (by omega)]
    unfold madeO
    simp only
    rw [if_neg (by omega), if_neg (by omega), if_pos h3]
    rfl
   rw [hmj]
   have hcR := hJ.cols.keep q
   obtain ⟨at_, code, outs, js, cols, op, ⟨lc, lk, ln, lw⟩, ⟨rc, rk, rn, rw'⟩, retry⟩ := j
   simp only at h3
   subst h3
   exact made_3 t OA out.length od b o 1 ct A1 A2 c1 c2 (by omega) at_ retry lk ln rk rn outs cols op lc lw rc rw' Ao co Ai ni ci Ac cc W d0 d1 hT (row_len hrt) h12 hcR (by simp only at h11; omega)
  ·have h1 : ins.length = 2 := by rw [hsz, h5]; rfl
   obtain ⟨t, u, rfl⟩ : ∃ t u, ins = [t, u] := by
    match ins, h1 with
    | [t, u], _ => exact ⟨t, u, rfl⟩
   have hrt : rightB t = true := hr t (by simp)
   have hru : rightB u = true := hr u (by simp)
   obtain ⟨b, o, A1, c1, A2, c2, rfl, d0, d1, hT⟩ := (hI.keep q).first (k := 0) (by simp) rfl (hB t (by simp))
   obtain ⟨b', o', A3, c3, A4, c4, hbo, d2, d3, hU⟩ := (hI.keep q).first (k := 1) (by simp) rfl (hB u (by simp))
   injection hbo with hbo
   injection hbo with hb ho _
   subst hb ho
   rw [Nat.zero_mul, Nat.add_zero] at d0 d1
   have hmj : madeJ j [t, u] out = .ok [t.rows ++ u.rows] := by
    rw [madeJ_of (by omega) (by omega) (by omega)]
    unfold madeO
    simp only
    rw [if_neg (by omega), if_neg (by omega), if_neg (by omega), if_pos h5]
    rfl
   rw [hmj]
   obtain ⟨at_, code, outs, js, cols, op, ⟨lc, lk, ln, lw⟩, ⟨rc, rk, rn, rw'⟩, retry⟩ := j
   simp only at h5
   subst h5
   exact made_5 t u OA out.length od b o 2 ct A1 A2 c1 c2 (by omega) at_ retry lk ln rk rn outs cols op lc lw rc rw' Ao co Ai ni ci Ac cc W d0 d1 hT A3 A4 c3 c4 d3 hU (by have := right_rows hrt; omega) (by have := right_rows hru; omega)
  ·have h1 : ins.length = 1 := by rw [hsz, h6]; rfl
   obtain ⟨t, rfl⟩ : ∃ t, ins = [t] := by
    match ins, h1 with
    | [t], _ => exact ⟨t, rfl⟩
   have hrt : rightB t = true := hr t (by simp)
   obtain ⟨b, o, A1, c1, A2, c2, rfl, d0, d1, hT⟩ := (hI.keep q).first (k := 0) (by simp) rfl (hB t (by simp))
   rw [Nat.zero_mul, Nat.add_zero] at d0 d1
   have hmj : madeJ j [t] out = .ok [distinctGo t.rows [] []] := by
    rw [madeJ_of (by omega) (by omega) (by omega)]
    unfold madeO
    simp only
    rw [if_neg (by omega), if_neg (by omega), if_neg (by omega), if_neg (by omega)]
    rfl
   rw [hmj]
   have hEq := (hE.quiet q).t
   obtain ⟨at_, code, outs, js, cols, op, ⟨lc, lk, ln, lw⟩, ⟨rc, rk, rn, rw'⟩, retry⟩ := j
   simp only at h6
   subst h6
   exact made_6 t hrt OA out.length od b o 1 ct A1 A2 c1 c2 (by omega) at_ retry lk ln rk rn outs cols op lc lw rc rw' Ao co Ai ni ci Ac cc W d0 d1 hT hEq
theorem one_right {j : Jb} (hcode : j.code = 1 ∨ j.code = 2 ∨ j.code = 3 ∨ j.code = 5 ∨ j.code = 6) {ins : List Tb} {u : Tb} (h : oneJ j ins = some u) : rightB u = true := by
 have hs : ins.length = (sizesN j.code).1 := by
  obtain ⟨_, out, rows, h1, _⟩ := (one_gen (by omega)).1 h
  have := sizes_of h1
  rwa [List.length_map] at this
 rcases hcode with h1 | h2 | h3 | h5 | h6
 ·obtain ⟨t, rfl⟩ : ∃ t, ins = [t] := by
   rw [h1] at hs
   match ins, hs with
   | [t], _ => exact ⟨t, rfl⟩
  rw [one_filter j t h1] at h
  split at h
  ·rename_i hh
   injection h with h
   rw [← h]
   exact filter_right j hh.1
  ·cases h
 ·obtain ⟨t, rfl⟩ : ∃ t, ins = [t] := by
   rw [h2] at hs
   match ins, hs with
   | [t], _ => exact ⟨t, rfl⟩
  obtain ⟨hr, ⟨k, hk⟩, l, hl, rfl⟩ := (one_set h2).1 h
  exact set_right hr hk hl
 ·obtain ⟨t, rfl⟩ : ∃ t, ins = [t] := by
   rw [h3] at hs
   match ins, hs with
   | [t], _ => exact ⟨t, rfl⟩
  obtain ⟨hr, hp, rfl⟩ := (one_proj h3).1 h
  exact proj_right hr hp
 ·obtain ⟨t, v, rfl⟩ : ∃ t v, ins = [t, v] := by
   rw [h5] at hs
   match ins, hs with
   | [t, v], _ => exact ⟨t, v, rfl⟩
  obtain ⟨hr, hv, hc, hl, rfl⟩ := (one_union h5).1 h
  exact union_right hr hv hc hl
 ·obtain ⟨t, rfl⟩ : ∃ t, ins = [t] := by
   rw [h6] at hs
   match ins, hs with
   | [t], _ => exact ⟨t, rfl⟩
  obtain ⟨hr, rfl⟩ := (one_dist h6).1 h
  exact dist_right hr
end Go.Proofs.YtpfkjejknlkkoaaGreatDoor
namespace Go.Proofs.YtpfkjejknlkkoaaGreatDoor
end Go.Proofs.YtpfkjejknlkkoaaGreatDoor
