/- The parser's of. The parser's body, where there is no job. The parser's body at its codes. -/
import Derived.Test.YtnjjajanfedjiaaGreatDoorPtuM8
set_option linter.unusedSimpArgs false
set_option linter.unusedVariables false
namespace Go.Proofs.YtnjjajanfedjiaaGreatDoor
open Go.RowKit Go.BigFrame
attribute [local go_sem] bs_size bs_extract bs_append bs_toList
set_option maxRecDepth 100000 in
set_option maxHeartbeats 8000000 in
theorem of_any {l : List Tk} {b jb lo : Nat} {v2 v3 v4 : Value} (at_ code : Int) (outs ins cols : List Bs) (op : Bs) (left right : Ar) (retry : Int) (w0 w : World) (hE : FB w0 lo) (_ : lo ≤ b) (h : Ps w b l) (hk : Keeps [b] w0 w) (hjb : w0.heap.size ≤ jb) (hj : JbIs w w0.heap.size jb ⟨at_, code, outs, ins, cols, op, left, right, retry⟩ v2 v3 v4) (hl3 : ins.length ≤ 1000000) (hl4 : cols.length ≤ 1000000) (hll : l.length ≤ 1000000) :
  Calls Tryz.prog 150 #[.pointer (some ⟨b, 0, none⟩), .pointer (some ⟨jb, 0, none⟩)] w fun e w' => JbOut (ofP ⟨at_, code, outs, ins, cols, op, left, right, retry⟩ l) b w0.heap.size jb e w' ∧ Keeps [b] w0 w' := by
 obtain ⟨i0, hi, hz0, hz1, hz2⟩ := info_parts sinf
 obtain ⟨R, hR⟩ : ∃ R, ofP ⟨at_, code, outs, ins, cols, op, left, right, retry⟩ l = R := ⟨_, rfl⟩
 rw [hR]
 unfold ofP at hR
 try unfold cmpL at hR
 have HR := Lib.hid hR
 have HE := Lib.hid hE
 have HP := Lib.hid h
 have HK := Lib.hid hk
 have HJ := Lib.hid hj
 have HJB := Lib.hid hjb
 have HL3 := Lib.hid hl3
 have HL4 := Lib.hid hl4
 have HLL := Lib.hid hll
 have HLQ := Lib.hid (Nat.le_refl l.length)
 clear hR hE h hk hj hl3 hl4 hll hjb
 go_enter Tryz.func150, Tryz.ntmps150
 go_upto_region 0 with (fail)
 obtain ⟨A1, c1, hv, -⟩ := own_form HJ.out.o3
 subst hv
 have fS : w.cell? ⟨jb, 3, none⟩ = some (.slice A1 (ins).length c1) ∧ w.frozen? ⟨jb, 3, none⟩ = false := ⟨HJ.out.blk.cell 3, HJ.out.blk.frozen 3⟩
 have lj := HJ.out.blk.lt
 have hbd := Lib.hid (show (ins).length + 1 ≤ maxLen ∧ ((ins).length + 1) * 16 ≤ 140737488355328 by have := HL3.out; simp only [maxLen]; first | omega | (simp only [List.length_append, List.length_cons, List.length_nil]; omega))
 have HNE : Hid (jb ∉ [b]) := Lib.hid (by have := HJ.out.blk.ty.ne HP.out.ty (by decide); simpa using this)
 rcases hS : nameP l with x | ⟨a1, r1⟩
 ·have hr := HR.out
  rw [hS, err_bind] at hr
  have HX := Lib.hid hr.symm
  have HC : Hid (∀ W, Keeps [] w W → Calls Tryz.prog 78 #[.pointer (some ⟨b, 0, none⟩)] W fun e w' => Thrown x e w' ∧ Keeps [b] W w') := Lib.hid (fun W z => name_no hS W (HP.out.keep z))
  clear hr hS
  go_wp2_with fail
  go_region_law (first | (refine step_append_lies _ (by rfl) _ _ _ (by rfl) w0.heap.size 9 i0 _ 1 16 Tryz.underlying39 hi hz0 hz1 hz2 rfl (by decide) (.slice A1 (ins).length c1) (ins).length (strs (ins)) (by rfl) ((HJ.out.ps HP.out hk6.undrew).o3.alloc _) ⟨w6.heap.size, 0, none⟩ 1 1 [.string (bs [])] (by rfl) rfl (World.news_of_block (heap_alloc_new _ _)) (by simp [Value.oneCell']) (by decide) hbd.out.1 hbd.out.2 (by have := HK.out.size; have := hk6.size; have h9 : w.drew.heap.size = w.heap.size := rfl; simp; omega) _ rfl ?_; intro gw cap w7 hown7 hgrow7 hat7 hlt7; obtain ⟨fS7, fZ7⟩ := fld_grown hgrow7 (fld_alloc ⟨fS6, fZ6⟩ _) (fun e => (own_ty (HJ.out.ps HP.out hk6.undrew).o3 jb e).ne (HJ.out.ps HP.out hk6.undrew).blk.ty (by decide) rfl)) | (go_simp; go_at_call 78; refine (HC.out _ (Keeps.refl [] w).drew).mono ?_; rintro e w6 ⟨⟨gi, rfl, hb⟩, hk6⟩; obtain ⟨fS6, fZ6⟩ := fld_keeps hk6 fS HNE.out; have gl6 : jb < w6.heap.size := World.block_lt_of_cell? w6 ⟨jb, 3, none⟩ fS6; dsimp only; (go_loud (refine fake_way ‹∀ (a : Act) (w : World), wpAny _ _ _ _ _ _ a w → _› (some 10) (.string (bs [])) ⟨rfl, by rw [HX.out]; exact ⟨gi, rfl, hb⟩, HK.out.trans hk6.undrew⟩ (fun hF => ?_)))))
  all_goals exact hF.out.elim
 have hr := HR.out
 rw [hS, ok_bind] at hr
 try dsimp only at hr
 clear HR
 have HR := Lib.hid hr
 clear hr
 have HC : Hid (∀ W, Keeps [] w W → Calls Tryz.prog 78 #[.pointer (some ⟨b, 0, none⟩)] W fun e w' => e = .returned (.string (bs a1)) ∧ Ps w' b r1 ∧ Keeps [b] W w') := Lib.hid (fun W z => name_yes hS W (HP.out.keep z))
 have HLR : Hid (r1.length ≤ l.length) := Lib.hid (by have := HLQ.out; have := nameP_len hS; omega)
 clear HLQ
 have HLQ := HLR
 clear HLR
 clear hS
 go_cut [] (fun wx => ∃ vz1, JbIs wx w0.heap.size jb (⟨at_, code, outs, ins ++ [a1], cols, op, left, right, retry⟩ : Jb) v2 vz1 v4 ∧ Ps wx b r1 ∧ Keeps [b] w0 wx)
 case first =>
  go_region_law (first | (refine step_append_lies _ (by rfl) _ _ _ (by rfl) w0.heap.size 9 i0 _ 1 16 Tryz.underlying39 hi hz0 hz1 hz2 rfl (by decide) (.slice A1 (ins).length c1) (ins).length (strs (ins)) (by rfl) ((HJ.out.ps HP.out hk6.undrew).o3.alloc _) ⟨w6.heap.size, 0, none⟩ 1 1 [.string (bs a1)] (by rfl) rfl (World.news_of_block (heap_alloc_new _ _)) (by simp [Value.oneCell']) (by decide) hbd.out.1 hbd.out.2 (by have := HK.out.size; have := hk6.size; have h9 : w.drew.heap.size = w.heap.size := rfl; simp; omega) _ rfl ?_; intro gw cap w7 hown7 hgrow7 hat7 hlt7; obtain ⟨fS7, fZ7⟩ := fld_grown hgrow7 (fld_alloc ⟨fS6, fZ6⟩ _) (fun e => (own_ty (HJ.out.ps HP.out hk6.undrew).o3 jb e).ne (HJ.out.ps HP.out hk6.undrew).blk.ty (by decide) rfl)) | (go_simp; go_at_call 78; refine (HC.out _ (Keeps.refl [] w).drew).mono ?_; rintro e w6 ⟨rfl, hp6, hk6⟩; obtain ⟨fS6, fZ6⟩ := fld_keeps hk6 fS HNE.out; have gl6 : jb < w6.heap.size := World.block_lt_of_cell? w6 ⟨jb, 3, none⟩ fS6))
  all_goals
   go_wp2
   go_meet
   have hh := JbIs.app3 (HJ.out.ps HP.out hk6.undrew) hp6 (HK.out.trans hk6.undrew) rfl HJB.out hgrow7 rfl hown7 hat7 (by simp)
   exact ⟨_, hh.1, hh.2.1, hh.2.2⟩
 case rest =>
  obtain ⟨vz1, hj, hp, hk⟩ := hcut
  obtain ⟨y1, rfl⟩ : ∃ y : World, y = wc := ⟨_, rfl⟩
  clear HP HJ HK HC fS lj hbd HNE
  have HP := Lib.hid hp
  have HJ := Lib.hid hj
  have HK := Lib.hid hk
  have HLN : Hid ((ins ++ [a1]).length ≤ 1000000 + 1) := Lib.hid (by have := HL3.out; simp only [List.length_append, List.length_cons, List.length_nil]; omega)
  clear hp hj hk HL3
  generalize ins ++ [a1] = il1 at HJ HR HLN
  have HL3 := HLN
  clear HLN
  rcases hS : mustP [46] r1 with x | r2
  ·have hr := HR.out
   rw [hS, err_bind] at hr
   have HX := Lib.hid hr.symm
   have HC := Lib.hid (must_no hS y1 HP.out)
   clear hr hS
   go_wp2_with fail
   refine HC.out.mono ?_
   rintro ev w9 ⟨⟨gi, rfl, hb⟩, hk9⟩
   exact ⟨rfl, by rw [HX.out]; exact ⟨gi, rfl, hb⟩, HK.out.trans hk9⟩
  have hr := HR.out
  rw [hS, ok_bind] at hr
  try dsimp only at hr
  clear HR
  have HR := Lib.hid hr
  clear hr
  have HC := Lib.hid (must_yes hS y1 HP.out)
  have HLR : Hid (r2.length ≤ l.length) := Lib.hid (by have := HLQ.out; have := mustP_len hS; omega)
  clear hS HLQ
  have HLQ := HLR
  clear HLR
  go_wp2_with fail
  refine HC.out.mono ?_
  rintro ev y2 ⟨rfl, hp, hk⟩
  have HJ' := Lib.hid (HJ.out.ps HP.out hk)
  have HK' := Lib.hid (HK.out.trans hk)
  clear HP HJ HK HC
  have HP := Lib.hid hp
  have HJ := HJ'
  have HK := HK'
  clear hp hk HJ' HK'
  go_upto_region 2 with (fail)
  obtain ⟨A3, c3, hv, -⟩ := own_form HJ.out.o4
  subst hv
  have fS : y2.cell? ⟨jb, 4, none⟩ = some (.slice A3 (cols).length c3) ∧ y2.frozen? ⟨jb, 4, none⟩ = false := ⟨HJ.out.blk.cell 4, HJ.out.blk.frozen 4⟩
  have lj := HJ.out.blk.lt
  have hbd := Lib.hid (show (cols).length + 1 ≤ maxLen ∧ ((cols).length + 1) * 16 ≤ 140737488355328 by have := HL4.out; simp only [maxLen]; first | omega | (simp only [List.length_append, List.length_cons, List.length_nil]; omega))
  have HNE : Hid (jb ∉ [b]) := Lib.hid (by have := HJ.out.blk.ty.ne HP.out.ty (by decide); simpa using this)
  rcases hS : nameP r2 with x | ⟨a3, r3⟩
  ·have hr := HR.out
   rw [hS, err_bind] at hr
   have HX := Lib.hid hr.symm
   have HC : Hid (∀ W, Keeps [] y2 W → Calls Tryz.prog 78 #[.pointer (some ⟨b, 0, none⟩)] W fun e w' => Thrown x e w' ∧ Keeps [b] W w') := Lib.hid (fun W z => name_no hS W (HP.out.keep z))
   clear hr hS
   go_wp2_with fail
   go_region_law (first | (refine step_append_lies _ (by rfl) _ _ _ (by rfl) w0.heap.size 9 i0 _ 1 16 Tryz.underlying39 hi hz0 hz1 hz2 rfl (by decide) (.slice A3 (cols).length c3) (cols).length (strs (cols)) (by rfl) ((HJ.out.ps HP.out hk6.undrew).o4.alloc _) ⟨w6.heap.size, 0, none⟩ 1 1 [.string (bs [])] (by rfl) rfl (World.news_of_block (heap_alloc_new _ _)) (by simp [Value.oneCell']) (by decide) hbd.out.1 hbd.out.2 (by have := HK.out.size; have := hk6.size; have h9 : y2.drew.heap.size = y2.heap.size := rfl; simp; omega) _ rfl ?_; intro gw cap w7 hown7 hgrow7 hat7 hlt7; obtain ⟨fS7, fZ7⟩ := fld_grown hgrow7 (fld_alloc ⟨fS6, fZ6⟩ _) (fun e => (own_ty (HJ.out.ps HP.out hk6.undrew).o4 jb e).ne (HJ.out.ps HP.out hk6.undrew).blk.ty (by decide) rfl)) | (go_simp; go_at_call 78; refine (HC.out _ (Keeps.refl [] y2).drew).mono ?_; rintro e w6 ⟨⟨gi, rfl, hb⟩, hk6⟩; obtain ⟨fS6, fZ6⟩ := fld_keeps hk6 fS HNE.out; have gl6 : jb < w6.heap.size := World.block_lt_of_cell? w6 ⟨jb, 4, none⟩ fS6; dsimp only; (go_loud (refine fake_way ‹∀ (a : Act) (w : World), wpAny _ _ _ _ _ _ a w → _› (some 23) (.string (bs [])) ⟨rfl, by rw [HX.out]; exact ⟨gi, rfl, hb⟩, HK.out.trans hk6.undrew⟩ (fun hF => ?_)))))
   all_goals exact hF.out.elim
  have hr := HR.out
  rw [hS, ok_bind] at hr
  try dsimp only at hr
  clear HR
  have HR := Lib.hid hr
  clear hr
  have HC : Hid (∀ W, Keeps [] y2 W → Calls Tryz.prog 78 #[.pointer (some ⟨b, 0, none⟩)] W fun e w' => e = .returned (.string (bs a3)) ∧ Ps w' b r3 ∧ Keeps [b] W w') := Lib.hid (fun W z => name_yes hS W (HP.out.keep z))
  have HLR : Hid (r3.length ≤ l.length) := Lib.hid (by have := HLQ.out; have := nameP_len hS; omega)
  clear HLQ
  have HLQ := HLR
  clear HLR
  clear hS
  have HX := Lib.hid HR.out.symm
  clear HR
  go_region_law (first | (refine step_append_lies _ (by rfl) _ _ _ (by rfl) w0.heap.size 9 i0 _ 1 16 Tryz.underlying39 hi hz0 hz1 hz2 rfl (by decide) (.slice A3 (cols).length c3) (cols).length (strs (cols)) (by rfl) ((HJ.out.ps HP.out hk6.undrew).o4.alloc _) ⟨w6.heap.size, 0, none⟩ 1 1 [.string (bs a3)] (by rfl) rfl (World.news_of_block (heap_alloc_new _ _)) (by simp [Value.oneCell']) (by decide) hbd.out.1 hbd.out.2 (by have := HK.out.size; have := hk6.size; have h9 : y2.drew.heap.size = y2.heap.size := rfl; simp; omega) _ rfl ?_; intro gw cap w7 hown7 hgrow7 hat7 hlt7; obtain ⟨fS7, fZ7⟩ := fld_grown hgrow7 (fld_alloc ⟨fS6, fZ6⟩ _) (fun e => (own_ty (HJ.out.ps HP.out hk6.undrew).o4 jb e).ne (HJ.out.ps HP.out hk6.undrew).blk.ty (by decide) rfl)) | (go_simp; go_at_call 78; refine (HC.out _ (Keeps.refl [] y2).drew).mono ?_; rintro e w6 ⟨rfl, hp6, hk6⟩; obtain ⟨fS6, fZ6⟩ := fld_keeps hk6 fS HNE.out; have gl6 : jb < w6.heap.size := World.block_lt_of_cell? w6 ⟨jb, 4, none⟩ fS6))
  all_goals
   go_wp2
   first | go_end0 | refine bodyPost_ret (results_none rfl _ _ _) rfl ?_
   try (have hcl := HCL.out; subst hcl)
   have hh := JbIs.app4 (HJ.out.ps HP.out hk6.undrew) hp6 (HK.out.trans hk6.undrew) rfl HJB.out hgrow7 rfl hown7 hat7 (by simp)
   exact ⟨by rw [HX.out]; exact ⟨rfl, ⟨_, _, _, hh.1⟩, hh.2.1⟩, hh.2.2⟩
end Go.Proofs.YtnjjajanfedjiaaGreatDoor
namespace Go.Proofs.YtnjjajanfedjiaaGreatDoor
open Go.RowKit Go.BigFrame
attribute [local go_sem] bs_size bs_extract bs_append bs_toList
def wordQ (s : Bs) : Int := Lib.idxOfS (wordsL.map bs) (bs s)
theorem wordFrom_q (s : Bs) : ∀ (ms : List Bs) (i : Nat), (Lib.idxFromS (ms.map bs) (bs s) i = -1 ∧ wordFrom s ms i = 0) ∨ (Lib.idxFromS (ms.map bs) (bs s) i = (wordFrom s ms i : Int) ∧ i ≤ wordFrom s ms i ∧ wordFrom s ms i < i + ms.length ∧ ms.getD (wordFrom s ms i - i) [] = s)
 | [], i => .inl ⟨rfl, rfl⟩
 | m :: ms, i => by
  simp only [List.map_cons, Lib.idxFromS, wordFrom]
  by_cases h : m = s
  ·right
   rw [if_pos (congrArg bs h), if_pos h]
   exact ⟨rfl, Nat.le_refl _, by simp, by simpa using h⟩
  ·rw [if_neg (fun e => h (bs_inj e)), if_neg h]
   rcases wordFrom_q s ms (i + 1) with h1 | ⟨h1, h2, h3, h4⟩
   ·exact .inl h1
   ·right
    refine ⟨h1, by omega, by simp; omega, ?_⟩
    rw [show wordFrom s ms (i + 1) - i = (wordFrom s ms (i + 1) - (i + 1)) + 1 by omega]
    simpa using h4
theorem wordQ_max (s : Bs) : max (wordQ s) 0 = (wordIx s : Int) := by
 unfold wordQ wordIx Lib.idxOfS
 rcases wordFrom_q s wordsL 0 with ⟨h1, h2⟩ | ⟨h1, _⟩
 ·rw [h1, h2]; rfl
 ·rw [h1]; omega
theorem wordIx_text {s : Bs} {c : Nat} (h : wordIx s = c) (hc : c ≠ 0) : s = wordsL.getD c [] := by
 unfold wordIx at h
 rcases wordFrom_q s wordsL 0 with ⟨_, h2⟩ | ⟨_, _, _, h4⟩
 ·omega
 ·rw [h] at h4; simpa using h4.symm
theorem wordIx_lt (s : Bs) : wordIx s < 10 := by
 unfold wordIx
 rcases wordFrom_q s wordsL 0 with ⟨_, h2⟩ | ⟨_, _, h3, _⟩
 ·omega
 ·have : wordsL.length = 10 := rfl
  omega
theorem index_words (s : Bs) (W : World) (hE : FEnv W) : Calls Tryz.prog 90 #[.slice (some ⟨1, 0, none⟩) 10 10, .string (bs s)] W fun e W' => e = .returned (.int .i64 (wordQ s)) ∧ W = W' := by
 have h := Tryz.slices_Index_string 1 0 10 10 (wordsL.map bs) (bs s) W (by decide) (by decide) (fun j hj => by
  have hj' : j < wordsL.length := by simpa using hj
  rw [Nat.zero_add, hE.words j hj', List.getD_eq_getElem?_getD, List.getElem?_map, List.getElem?_eq_getElem hj']
  rfl)
 rw [List.take_of_length_le (by decide)] at h
 exact h.mono fun e W' ⟨h1, h2⟩ => ⟨h1, h2.symm⟩
theorem ofP_ok {j j' : Jb} {l r : List Tk} (h : ofP j l = .ok (j', r)) : ∃ a c, j' = ⟨j.at_, j.code, j.outs, j.ins ++ [a], j.cols ++ [c], j.op, j.left, j.right, j.retry⟩ ∧ r.length ≤ l.length := by
 unfold ofP at h
 rcases h1 : nameP l with x | ⟨a, r1⟩
 ·rw [h1] at h; cases h
 rw [h1, ok_bind] at h
 dsimp only at h
 rcases h2 : mustP [46] r1 with x | r2
 ·rw [h2] at h; cases h
 rw [h2, ok_bind] at h
 rcases h3 : nameP r2 with x | ⟨c, r3⟩
 ·rw [h3] at h; cases h
 rw [h3, ok_bind] at h
 injection h with h
 injection h with h4 h5
 exact ⟨a, c, h4.symm, by rw [← h5, nameP_len h3, mustP_len h2, nameP_len h1]; omega⟩
set_option maxRecDepth 100000 in
set_option maxHeartbeats 8000000 in
theorem body_zero {l : List Tk} {b jb lo : Nat} {v2 v3 v4 : Value} (at_ code : Int) (outs ins cols : List Bs) (op : Bs) (left right : Ar) (retry : Int) (w0 w : World) (hE : FB w0 lo) (hlo : lo ≤ b) (h : Ps w b l) (hk : Keeps [b] w0 w) (hjb : w0.heap.size ≤ jb) (hj : JbIs w w0.heap.size jb ⟨at_, code, outs, ins, cols, op, left, right, retry⟩ v2 v3 v4) (hl3 : ins.length ≤ 1000) (hl4 : cols.length ≤ 1000) (hll : l.length ≤ 1000000) (hcc : wordIx (hdT l).text = 0) :
  Calls Tryz.prog 117 #[.pointer (some ⟨b, 0, none⟩), .pointer (some ⟨jb, 0, none⟩)] w fun e w' => JbOut (bodyP ⟨at_, code, outs, ins, cols, op, left, right, retry⟩ l) b w0.heap.size jb e w' ∧ Keeps [b] w0 w' := by
 obtain ⟨i0, hi, hz0, hz1, hz2⟩ := info_parts sinf
 obtain ⟨R, hR⟩ : ∃ R, bodyP ⟨at_, code, outs, ins, cols, op, left, right, retry⟩ l = R := ⟨_, rfl⟩
 rw [hR]
 have HE := Lib.hid hE
 have HP := Lib.hid h
 have HK := Lib.hid hk
 have HJ := Lib.hid hj
 have HJB := Lib.hid hjb
 have HL3 : Hid (ins.length ≤ 999000) := Lib.hid (by omega)
 have HL4 : Hid (cols.length ≤ 999000) := Lib.hid (by omega)
 have HLL := Lib.hid hll
 have HIX : Hid (∀ W, Keeps [] w W → Calls Tryz.prog 90 #[.slice (some ⟨1, 0, none⟩) 10 10, .string (bs (hdT l).text)] W fun e W' => e = .returned (.int .i64 (wordQ (hdT l).text)) ∧ W = W') := Lib.hid (fun W q => index_words (hdT l).text W ((hE.one hlo hk).quiet q).env)
 obtain ⟨q, hq⟩ : ∃ q, wordQ (hdT l).text = q := ⟨_, rfl⟩
 rw [hq] at HIX
 have HQ := Lib.hid hq
 obtain ⟨g, o, c, c0, z0, lb, lg, -, hn, hc, hc2, k0, k1, k2, -⟩ := h.open'
 have hn2 : (0 : Int) < (l.length : Int) := by omega
 have f1 : w.cell? ⟨jb, 1, none⟩ = some (.int .i64 code) := hj.blk.cell 1
 have f2 := hj.blk.frozen 1
 have lj := hj.blk.lt
 have HCC := Lib.hid hcc
 have HX : Hid (R = .error (3, (hdT l).at_)) := Lib.hid (by rw [← hR]; unfold bodyP; rw [if_pos (.inl hcc)]; rfl)
 clear hR hE h hk hj hl3 hl4 hll hjb hq hcc
 go_enter Tryz.func117, Tryz.ntmps117
 go_upto_region 0 with (fail)
 go_cut [] (fun wx => wx = (w.setCell ⟨jb, 1, none⟩ (.int .i64 (max q 0))).drew)
 case first =>
  go_region_law (first | (go_simp; go_at_call 90; refine (HIX.out _ (Keeps.refl [] w).drew).mono ?_; rintro e w6 ⟨rfl, rfl⟩))
  all_goals
   go_wp2
   go_meet
   exact rfl
 case rest =>
  subst hcut
  clear c0 z0 lb lg hn hc hc2 k0 k1 k2 hn2 lj f1 f2 HIX
  have hkb : Keeps [jb] w ((w.setCell ⟨jb, 1, none⟩ (.int .i64 (max q 0))).drew) := ((Keeps.refl _ _).setCell (.inl (by simp)) _).drew
  have hj' : JbIs ((w.setCell ⟨jb, 1, none⟩ (.int .i64 (max q 0))).drew) w0.heap.size jb ⟨at_, max q 0, outs, ins, cols, op, left, right, retry⟩ v2 v3 v4 := HJ.out.box hkb ((HJ.out.blk.set 1 (.int .i64 (max q 0))).congr (by rfl)) rfl rfl rfl
  have hp' := HP.out.box HJ.out hkb
  have hk' := HK.out.box HJB.out hkb
  have hm : max q 0 = 0 := by rw [← HQ.out, wordQ_max, HCC.out]; rfl
  rw [hm] at hj' hp' hk' ⊢
  clear hm hkb HJ HP HK
  obtain ⟨y0, hy⟩ : ∃ x, (w.setCell ⟨jb, 1, none⟩ (.int .i64 0)).drew = x := ⟨_, rfl⟩
  rw [hy] at hj' hp' hk' ⊢
  have HJ := Lib.hid hj'
  have HP := Lib.hid hp'
  have HK := Lib.hid hk'
  have jc1 : y0.cell? ⟨jb, 1, none⟩ = some (.int .i64 0) := hj'.blk.cell 1
  have lj := hj'.blk.lt
  obtain ⟨g, o, c, c0, z0, lb, lg, -, hn, hc, hc2, k0, k1, k2, -⟩ := hp'.open'
  have hn2 : (0 : Int) < (l.length : Int) := by omega
  clear hy hj' hp' hk' hn hc hc2 HQ
  go_wp2_with fail
  refine (fail_any' 3 y0 HP.out).mono ?_
  rintro ev w9 ⟨⟨gi, rfl, hb⟩, hk9⟩
  exact ⟨rfl, by rw [HX.out]; exact ⟨gi, rfl, hb⟩, HK.out.trans hk9.of_nil⟩
set_option maxRecDepth 100000 in
set_option maxHeartbeats 8000000 in
theorem body_kind {l : List Tk} {b jb lo : Nat} {v2 v3 v4 : Value} (at_ code : Int) (outs ins cols : List Bs) (op : Bs) (left right : Ar) (retry : Int) (w0 w : World) (hE : FB w0 lo) (hlo : lo ≤ b) (h : Ps w b l) (hk : Keeps [b] w0 w) (hjb : w0.heap.size ≤ jb) (hj : JbIs w w0.heap.size jb ⟨at_, code, outs, ins, cols, op, left, right, retry⟩ v2 v3 v4) (hl3 : ins.length ≤ 1000) (hl4 : cols.length ≤ 1000) (hll : l.length ≤ 1000000) {cc : Nat} (hcc : wordIx (hdT l).text = cc) (hc0 : cc ≠ 0) (hkd : (hdT l).kind ≠ 1) :
  Calls Tryz.prog 117 #[.pointer (some ⟨b, 0, none⟩), .pointer (some ⟨jb, 0, none⟩)] w fun e w' => JbOut (bodyP ⟨at_, code, outs, ins, cols, op, left, right, retry⟩ l) b w0.heap.size jb e w' ∧ Keeps [b] w0 w' := by
 obtain ⟨i0, hi, hz0, hz1, hz2⟩ := info_parts sinf
 obtain ⟨R, hR⟩ : ∃ R, bodyP ⟨at_, code, outs, ins, cols, op, left, right, retry⟩ l = R := ⟨_, rfl⟩
 rw [hR]
 have HE := Lib.hid hE
 have HP := Lib.hid h
 have HK := Lib.hid hk
 have HJ := Lib.hid hj
 have HJB := Lib.hid hjb
 have HL3 : Hid (ins.length ≤ 999000) := Lib.hid (by omega)
 have HL4 : Hid (cols.length ≤ 999000) := Lib.hid (by omega)
 have HLL := Lib.hid hll
 have HIX : Hid (∀ W, Keeps [] w W → Calls Tryz.prog 90 #[.slice (some ⟨1, 0, none⟩) 10 10, .string (bs (hdT l).text)] W fun e W' => e = .returned (.int .i64 (wordQ (hdT l).text)) ∧ W = W') := Lib.hid (fun W q => index_words (hdT l).text W ((hE.one hlo hk).quiet q).env)
 obtain ⟨q, hq⟩ : ∃ q, wordQ (hdT l).text = q := ⟨_, rfl⟩
 rw [hq] at HIX
 have HQ := Lib.hid hq
 obtain ⟨g, o, c, c0, z0, lb, lg, -, hn, hc, hc2, k0, k1, k2, -⟩ := h.open'
 have hn2 : (0 : Int) < (l.length : Int) := by omega
 have f1 : w.cell? ⟨jb, 1, none⟩ = some (.int .i64 code) := hj.blk.cell 1
 have f2 := hj.blk.frozen 1
 have lj := hj.blk.lt
 have HCC := Lib.hid hcc
 have HX : Hid (R = .error (3, (hdT l).at_)) := Lib.hid (by rw [← hR]; unfold bodyP; rw [if_pos (.inr hkd)]; rfl)
 have ekd : ((hdT l).kind != 1) = true := by rw [bne_iff_ne]; exact hkd
 have ec0 : ((cc : Int) == 0) = false := by rw [beq_eq_false_iff_ne]; omega
 clear hR hE h hk hj hl3 hl4 hll hjb hq hcc hc0 hkd
 go_enter Tryz.func117, Tryz.ntmps117
 go_upto_region 0 with (fail)
 go_cut [] (fun wx => wx = (w.setCell ⟨jb, 1, none⟩ (.int .i64 (max q 0))).drew)
 case first =>
  go_region_law (first | (go_simp; go_at_call 90; refine (HIX.out _ (Keeps.refl [] w).drew).mono ?_; rintro e w6 ⟨rfl, rfl⟩))
  all_goals
   go_wp2
   go_meet
   exact rfl
 case rest =>
  subst hcut
  clear c0 z0 lb lg hn hc hc2 k0 k1 k2 hn2 lj f1 f2 HIX
  have hkb : Keeps [jb] w ((w.setCell ⟨jb, 1, none⟩ (.int .i64 (max q 0))).drew) := ((Keeps.refl _ _).setCell (.inl (by simp)) _).drew
  have hj' : JbIs ((w.setCell ⟨jb, 1, none⟩ (.int .i64 (max q 0))).drew) w0.heap.size jb ⟨at_, max q 0, outs, ins, cols, op, left, right, retry⟩ v2 v3 v4 := HJ.out.box hkb ((HJ.out.blk.set 1 (.int .i64 (max q 0))).congr (by rfl)) rfl rfl rfl
  have hp' := HP.out.box HJ.out hkb
  have hk' := HK.out.box HJB.out hkb
  have hm : max q 0 = (cc : Int) := by rw [← HQ.out, wordQ_max, HCC.out]
  rw [hm] at hj' hp' hk' ⊢
  clear hm hkb HJ HP HK
  obtain ⟨y0, hy⟩ : ∃ x, (w.setCell ⟨jb, 1, none⟩ (.int .i64 (cc : Int))).drew = x := ⟨_, rfl⟩
  rw [hy] at hj' hp' hk' ⊢
  have HJ := Lib.hid hj'
  have HP := Lib.hid hp'
  have HK := Lib.hid hk'
  have jc1 : y0.cell? ⟨jb, 1, none⟩ = some (.int .i64 (cc : Int)) := hj'.blk.cell 1
  have lj := hj'.blk.lt
  obtain ⟨g, o, c, c0, z0, lb, lg, -, hn, hc, hc2, k0, k1, k2, -⟩ := hp'.open'
  have hn2 : (0 : Int) < (l.length : Int) := by omega
  clear hy hj' hp' hk' hn hc hc2 HQ
  go_wp2_with fail
  refine (fail_any' 3 y0 HP.out).mono ?_
  rintro ev w9 ⟨⟨gi, rfl, hb⟩, hk9⟩
  exact ⟨rfl, by rw [HX.out]; exact ⟨gi, rfl, hb⟩, HK.out.trans hk9.of_nil⟩
end Go.Proofs.YtnjjajanfedjiaaGreatDoor
namespace Go.Proofs.YtnjjajanfedjiaaGreatDoor
open Go.RowKit Go.BigFrame
attribute [local go_sem] bs_size bs_extract bs_append bs_toList
set_option maxRecDepth 100000 in
set_option maxHeartbeats 8000000 in
theorem body_7 {l : List Tk} {b jb lo : Nat} {v2 v3 v4 : Value} (at_ code : Int) (outs ins cols : List Bs) (op : Bs) (left right : Ar) (retry : Int) (w0 w : World) (hE : FB w0 lo) (hlo : lo ≤ b) (h : Ps w b l) (hk : Keeps [b] w0 w) (hjb : w0.heap.size ≤ jb) (hj : JbIs w w0.heap.size jb ⟨at_, code, outs, ins, cols, op, left, right, retry⟩ v2 v3 v4) (hl3 : ins.length ≤ 1000) (hl4 : cols.length ≤ 1000) (hll : l.length ≤ 1000000) (hcc : wordIx (hdT l).text = 7) (hkd : (hdT l).kind = 1) :
  Calls Tryz.prog 117 #[.pointer (some ⟨b, 0, none⟩), .pointer (some ⟨jb, 0, none⟩)] w fun e w' => JbOut (bodyP ⟨at_, code, outs, ins, cols, op, left, right, retry⟩ l) b w0.heap.size jb e w' ∧ Keeps [b] w0 w' := by
 obtain ⟨i0, hi, hz0, hz1, hz2⟩ := info_parts sinf
 obtain ⟨R, hR⟩ : ∃ R, bodyP ⟨at_, code, outs, ins, cols, op, left, right, retry⟩ l = R := ⟨_, rfl⟩
 rw [hR]
 have HE := Lib.hid hE
 have HP := Lib.hid h
 have HK := Lib.hid hk
 have HJ := Lib.hid hj
 have HJB := Lib.hid hjb
 have HL3 : Hid (ins.length ≤ 999000) := Lib.hid (by omega)
 have HL4 : Hid (cols.length ≤ 999000) := Lib.hid (by omega)
 have HLL := Lib.hid hll
 have HIX : Hid (∀ W, Keeps [] w W → Calls Tryz.prog 90 #[.slice (some ⟨1, 0, none⟩) 10 10, .string (bs (hdT l).text)] W fun e W' => e = .returned (.int .i64 (wordQ (hdT l).text)) ∧ W = W') := Lib.hid (fun W q => index_words (hdT l).text W ((hE.one hlo hk).quiet q).env)
 obtain ⟨q, hq⟩ : ∃ q, wordQ (hdT l).text = q := ⟨_, rfl⟩
 rw [hq] at HIX
 have HQ := Lib.hid hq
 obtain ⟨g, o, c, c0, z0, lb, lg, -, hn, hc, hc2, k0, k1, k2, -⟩ := h.open'
 have hn2 : (0 : Int) < (l.length : Int) := by omega
 have f1 : w.cell? ⟨jb, 1, none⟩ = some (.int .i64 code) := hj.blk.cell 1
 have f2 := hj.blk.frozen 1
 have lj := hj.blk.lt
 have HCC := Lib.hid hcc
 have HR1 : Hid (joinP (⟨at_, 7, outs, ins, cols, op, left, right, retry⟩ : Jb) l.tail = R) := Lib.hid (by
  rw [← hR]
  unfold bodyP
  rw [hcc, if_neg (by rw [hkd]; decide)]
  rfl)
 have hse : seeP [106, 111, 105, 110] l = true := by
  unfold seeP
  rw [hkd, wordIx_text hcc (by decide)]
  rfl
 have HSE := Lib.hid hse
 have HKD := Lib.hid hkd
 clear hR hE h hk hj hl3 hl4 hll hjb hq hcc hse hkd
 go_enter Tryz.func117, Tryz.ntmps117
 go_upto_region 0 with (fail)
 go_cut [] (fun wx => wx = (w.setCell ⟨jb, 1, none⟩ (.int .i64 (max q 0))).drew)
 case first =>
  go_region_law (first | (go_simp; go_at_call 90; refine (HIX.out _ (Keeps.refl [] w).drew).mono ?_; rintro e w6 ⟨rfl, rfl⟩))
  all_goals
   go_wp2
   go_meet
   exact rfl
 case rest =>
  subst hcut
  clear c0 z0 lb lg hn hc hc2 k0 k1 k2 hn2 lj f1 f2 HIX
  have hkb : Keeps [jb] w ((w.setCell ⟨jb, 1, none⟩ (.int .i64 (max q 0))).drew) := ((Keeps.refl _ _).setCell (.inl (by simp)) _).drew
  have hj' : JbIs ((w.setCell ⟨jb, 1, none⟩ (.int .i64 (max q 0))).drew) w0.heap.size jb ⟨at_, max q 0, outs, ins, cols, op, left, right, retry⟩ v2 v3 v4 := HJ.out.box hkb ((HJ.out.blk.set 1 (.int .i64 (max q 0))).congr (by rfl)) rfl rfl rfl
  have hp' := HP.out.box HJ.out hkb
  have hk' := HK.out.box HJB.out hkb
  have hm : max q 0 = 7 := by rw [← HQ.out, wordQ_max, HCC.out]; rfl
  rw [hm] at hj' hp' hk' ⊢
  clear hm hkb HJ HP HK
  obtain ⟨y0, hy⟩ : ∃ x, (w.setCell ⟨jb, 1, none⟩ (.int .i64 7)).drew = x := ⟨_, rfl⟩
  rw [hy] at hj' hp' hk' ⊢
  have HJ := Lib.hid hj'
  have HP := Lib.hid hp'
  have HK := Lib.hid hk'
  have jc1 : y0.cell? ⟨jb, 1, none⟩ = some (.int .i64 7) := hj'.blk.cell 1
  have lj := hj'.blk.lt
  obtain ⟨g, o, c, c0, z0, lb, lg, -, hn, hc, hc2, k0, k1, k2, -⟩ := hp'.open'
  have hn2 : (0 : Int) < (l.length : Int) := by omega
  clear hy hj' hp' hk' hn hc hc2 HQ
  rw [HKD.out] at k0
  have wd := (HE.out.one hlo HK.out).env.words 7 (by decide)
  have wd2 : y0.cell? ⟨1, 7, none⟩ = some (.string (bs [106, 111, 105, 110])) := wd
  have lwd := World.block_lt_of_cell? _ _ wd2
  clear wd
  go_wp2_with fail
  refine (must_yes (s := [106, 111, 105, 110]) (r := l.tail) (by unfold mustP; rw [if_pos HSE.out]) y0 HP.out).mono ?_
  rintro ev y1 ⟨rfl, hp, hk⟩
  have HJ' := Lib.hid (HJ.out.ps HP.out hk)
  have HK' := Lib.hid (HK.out.trans hk)
  clear HP HJ HK c0 z0 lb lg k0 k1 k2 hn2 jc1 lj wd2 lwd
  have HP := Lib.hid hp
  have HJ := HJ'
  have HK := HK'
  clear hp hk HJ' HK'
  have HR := HR1
  clear HR1
  have HLQ : Hid (l.tail.length ≤ l.length) := Lib.hid (by rw [List.length_tail]; omega)
  obtain ⟨r0, hr0⟩ : ∃ r0, l.tail = r0 := ⟨_, rfl⟩
  rw [hr0] at HP HR HLQ
  clear hr0 HSE HKD HCC
  have jc1 : y1.cell? ⟨jb, 1, none⟩ = some (.int .i64 7) := HJ.out.blk.cell 1
  have lj0 := HJ.out.blk.lt
  have hr := HR.out
  unfold joinP at hr
  clear HR
  have HR := Lib.hid hr
  clear hr
  have hc := of_any at_ 7 outs (ins) (cols) op left right retry w0 y1 HE.out hlo HP.out HK.out HJB.out HJ.out (by have := HL3.out; first | omega | (simp only [List.length_append, List.length_cons, List.length_nil]; omega)) (by have := HL4.out; first | omega | (simp only [List.length_append, List.length_cons, List.length_nil]; omega)) (Nat.le_trans HLQ.out HLL.out)
  rcases hS : ofP (⟨at_, 7, outs, ins, cols, op, left, right, retry⟩ : Jb) r0 with x | ⟨j2, r2⟩
  ·have hr := HR.out
   rw [hS, err_bind] at hr
   have HX := Lib.hid hr.symm
   rw [hS] at hc
   have HC2 := Lib.hid hc
   clear hr hS hc
   go_wp2_with fail
   refine HC2.out.mono ?_
   rintro ev w9 ⟨⟨gi, rfl, hb⟩, hk9⟩
   exact ⟨rfl, by rw [HX.out]; exact ⟨gi, rfl, hb⟩, hk9⟩
  have hr := HR.out
  rw [hS, ok_bind] at hr
  try dsimp only at hr
  clear HR
  have HR := Lib.hid hr
  clear hr
  rw [hS] at hc
  obtain ⟨a2, d2, e, hle⟩ := ofP_ok hS
  subst e
  have HLR : Hid (r2.length ≤ l.length) := Lib.hid (Nat.le_trans hle HLQ.out)
  have HC := Lib.hid hc
  clear hS hc hle HLQ
  have HLQ := HLR
  clear HLR
  go_wp2_with fail
  refine HC.out.mono ?_
  rintro ev y2 ⟨⟨rfl, ⟨v2a, v2b, v2c, hj⟩, hp⟩, hk⟩
  clear HP HJ HK HC
  have HP := Lib.hid hp
  have HJ := Lib.hid hj
  have HK := Lib.hid hk
  clear hp hj hk
  clear jc1 lj0
  rcases hS : mustP [44] r2 with x | r3
  ·have hr := HR.out
   rw [hS, err_bind] at hr
   have HX := Lib.hid hr.symm
   have HC := Lib.hid (must_no hS y2 HP.out)
   clear hr hS
   go_wp2_with fail
   refine HC.out.mono ?_
   rintro ev w9 ⟨⟨gi, rfl, hb⟩, hk9⟩
   exact ⟨rfl, by rw [HX.out]; exact ⟨gi, rfl, hb⟩, HK.out.trans hk9⟩
  have hr := HR.out
  rw [hS, ok_bind] at hr
  try dsimp only at hr
  clear HR
  have HR := Lib.hid hr
  clear hr
  have HC := Lib.hid (must_yes hS y2 HP.out)
  have HLR : Hid (r3.length ≤ l.length) := Lib.hid (by have := HLQ.out; have := mustP_len hS; omega)
  clear hS HLQ
  have HLQ := HLR
  clear HLR
  go_wp2_with fail
  refine HC.out.mono ?_
  rintro ev y3 ⟨rfl, hp, hk⟩
  have HJ' := Lib.hid (HJ.out.ps HP.out hk)
  have HK' := Lib.hid (HK.out.trans hk)
  clear HP HJ HK HC
  have HP := Lib.hid hp
  have HJ := HJ'
  have HK := HK'
  clear hp hk HJ' HK'
  have hc := of_any at_ 7 outs (ins ++ [a2]) (cols ++ [d2]) op left right retry w0 y3 HE.out hlo HP.out HK.out HJB.out HJ.out (by have := HL3.out; first | omega | (simp only [List.length_append, List.length_cons, List.length_nil]; omega)) (by have := HL4.out; first | omega | (simp only [List.length_append, List.length_cons, List.length_nil]; omega)) (Nat.le_trans HLQ.out HLL.out)
  rcases hS : ofP (⟨at_, 7, outs, ins ++ [a2], cols ++ [d2], op, left, right, retry⟩ : Jb) r3 with x | ⟨j4, r4⟩
  ·have hr := HR.out
   rw [hS] at hr
   have HX := Lib.hid hr.symm
   rw [hS] at hc
   have HC2 := Lib.hid hc
   clear hr hS hc
   go_wp2_with fail
   refine HC2.out.mono ?_
   rintro ev w9 ⟨⟨gi, rfl, hb⟩, hk9⟩
   exact ⟨rfl, by rw [HX.out]; exact ⟨gi, rfl, hb⟩, hk9⟩
  have hr := HR.out
  rw [hS] at hr
  have HX := Lib.hid hr.symm
  rw [hS] at hc
  have HC := Lib.hid hc
  clear hr hS hc
  go_wp2_with fail
  refine HC.out.mono ?_
  rintro ev y4 ⟨⟨rfl, ⟨v4a, v4b, v4c, hj⟩, hp⟩, hk⟩
  go_wp2
  first | go_end0 | refine bodyPost_ret (results_none rfl _ _ _) rfl ?_
  exact ⟨by rw [HX.out]; exact ⟨rfl, ⟨_, _, _, hj⟩, hp⟩, hk⟩
set_option maxRecDepth 100000 in
set_option maxHeartbeats 8000000 in
theorem body_5 {l : List Tk} {b jb lo : Nat} {v2 v3 v4 : Value} (at_ code : Int) (outs ins cols : List Bs) (op : Bs) (left right : Ar) (retry : Int) (w0 w : World) (hE : FB w0 lo) (hlo : lo ≤ b) (h : Ps w b l) (hk : Keeps [b] w0 w) (hjb : w0.heap.size ≤ jb) (hj : JbIs w w0.heap.size jb ⟨at_, code, outs, ins, cols, op, left, right, retry⟩ v2 v3 v4) (hl3 : ins.length ≤ 1000) (hl4 : cols.length ≤ 1000) (hll : l.length ≤ 1000000) (hcc : wordIx (hdT l).text = 5) (hkd : (hdT l).kind = 1) :
  Calls Tryz.prog 117 #[.pointer (some ⟨b, 0, none⟩), .pointer (some ⟨jb, 0, none⟩)] w fun e w' => JbOut (bodyP ⟨at_, code, outs, ins, cols, op, left, right, retry⟩ l) b w0.heap.size jb e w' ∧ Keeps [b] w0 w' := by
 obtain ⟨i0, hi, hz0, hz1, hz2⟩ := info_parts sinf
 obtain ⟨R, hR⟩ : ∃ R, bodyP ⟨at_, code, outs, ins, cols, op, left, right, retry⟩ l = R := ⟨_, rfl⟩
 rw [hR]
 have HE := Lib.hid hE
 have HP := Lib.hid h
 have HK := Lib.hid hk
 have HJ := Lib.hid hj
 have HJB := Lib.hid hjb
 have HL3 : Hid (ins.length ≤ 999000) := Lib.hid (by omega)
 have HL4 : Hid (cols.length ≤ 999000) := Lib.hid (by omega)
 have HLL := Lib.hid hll
 have HIX : Hid (∀ W, Keeps [] w W → Calls Tryz.prog 90 #[.slice (some ⟨1, 0, none⟩) 10 10, .string (bs (hdT l).text)] W fun e W' => e = .returned (.int .i64 (wordQ (hdT l).text)) ∧ W = W') := Lib.hid (fun W q => index_words (hdT l).text W ((hE.one hlo hk).quiet q).env)
 obtain ⟨q, hq⟩ : ∃ q, wordQ (hdT l).text = q := ⟨_, rfl⟩
 rw [hq] at HIX
 have HQ := Lib.hid hq
 obtain ⟨g, o, c, c0, z0, lb, lg, -, hn, hc, hc2, k0, k1, k2, -⟩ := h.open'
 have hn2 : (0 : Int) < (l.length : Int) := by omega
 have f1 : w.cell? ⟨jb, 1, none⟩ = some (.int .i64 code) := hj.blk.cell 1
 have f2 := hj.blk.frozen 1
 have lj := hj.blk.lt
 have HCC := Lib.hid hcc
 have HR1 : Hid (unionP (⟨at_, 5, outs, ins, cols, op, left, right, retry⟩ : Jb) l.tail = R) := Lib.hid (by
  rw [← hR]
  unfold bodyP
  rw [hcc, if_neg (by rw [hkd]; decide)]
  rfl)
 have hse : seeP [117, 110, 105, 111, 110] l = true := by
  unfold seeP
  rw [hkd, wordIx_text hcc (by decide)]
  rfl
 have HSE := Lib.hid hse
 have HKD := Lib.hid hkd
 clear hR hE h hk hj hl3 hl4 hll hjb hq hcc hse hkd
 go_enter Tryz.func117, Tryz.ntmps117
 go_upto_region 0 with (fail)
 go_cut [] (fun wx => wx = (w.setCell ⟨jb, 1, none⟩ (.int .i64 (max q 0))).drew)
 case first =>
  go_region_law (first | (go_simp; go_at_call 90; refine (HIX.out _ (Keeps.refl [] w).drew).mono ?_; rintro e w6 ⟨rfl, rfl⟩))
  all_goals
   go_wp2
   go_meet
   exact rfl
 case rest =>
  subst hcut
  clear c0 z0 lb lg hn hc hc2 k0 k1 k2 hn2 lj f1 f2 HIX
  have hkb : Keeps [jb] w ((w.setCell ⟨jb, 1, none⟩ (.int .i64 (max q 0))).drew) := ((Keeps.refl _ _).setCell (.inl (by simp)) _).drew
  have hj' : JbIs ((w.setCell ⟨jb, 1, none⟩ (.int .i64 (max q 0))).drew) w0.heap.size jb ⟨at_, max q 0, outs, ins, cols, op, left, right, retry⟩ v2 v3 v4 := HJ.out.box hkb ((HJ.out.blk.set 1 (.int .i64 (max q 0))).congr (by rfl)) rfl rfl rfl
  have hp' := HP.out.box HJ.out hkb
  have hk' := HK.out.box HJB.out hkb
  have hm : max q 0 = 5 := by rw [← HQ.out, wordQ_max, HCC.out]; rfl
  rw [hm] at hj' hp' hk' ⊢
  clear hm hkb HJ HP HK
  obtain ⟨y0, hy⟩ : ∃ x, (w.setCell ⟨jb, 1, none⟩ (.int .i64 5)).drew = x := ⟨_, rfl⟩
  rw [hy] at hj' hp' hk' ⊢
  have HJ := Lib.hid hj'
  have HP := Lib.hid hp'
  have HK := Lib.hid hk'
  have jc1 : y0.cell? ⟨jb, 1, none⟩ = some (.int .i64 5) := hj'.blk.cell 1
  have lj := hj'.blk.lt
  obtain ⟨g, o, c, c0, z0, lb, lg, -, hn, hc, hc2, k0, k1, k2, -⟩ := hp'.open'
  have hn2 : (0 : Int) < (l.length : Int) := by omega
  clear hy hj' hp' hk' hn hc hc2 HQ
  rw [HKD.out] at k0
  have wd := (HE.out.one hlo HK.out).env.words 5 (by decide)
  have wd2 : y0.cell? ⟨1, 5, none⟩ = some (.string (bs [117, 110, 105, 111, 110])) := wd
  have lwd := World.block_lt_of_cell? _ _ wd2
  clear wd
  go_wp2_with fail
  refine (must_yes (s := [117, 110, 105, 111, 110]) (r := l.tail) (by unfold mustP; rw [if_pos HSE.out]) y0 HP.out).mono ?_
  rintro ev y1 ⟨rfl, hp, hk⟩
  have HJ' := Lib.hid (HJ.out.ps HP.out hk)
  have HK' := Lib.hid (HK.out.trans hk)
  clear HP HJ HK c0 z0 lb lg k0 k1 k2 hn2 jc1 lj wd2 lwd
  have HP := Lib.hid hp
  have HJ := HJ'
  have HK := HK'
  clear hp hk HJ' HK'
  have HR := HR1
  clear HR1
  have HLQ : Hid (l.tail.length ≤ l.length) := Lib.hid (by rw [List.length_tail]; omega)
  obtain ⟨r0, hr0⟩ : ∃ r0, l.tail = r0 := ⟨_, rfl⟩
  rw [hr0] at HP HR HLQ
  clear hr0 HSE HKD HCC
  have jc1 : y1.cell? ⟨jb, 1, none⟩ = some (.int .i64 5) := HJ.out.blk.cell 1
  have lj0 := HJ.out.blk.lt
  have hr := HR.out
  unfold unionP at hr
  clear HR
  have HR := Lib.hid hr
  clear hr
  go_upto_region 10 with (fail)
  obtain ⟨A2, c2, hv, -⟩ := own_form HJ.out.o3
  subst hv
  have fS : y1.cell? ⟨jb, 3, none⟩ = some (.slice A2 (ins).length c2) ∧ y1.frozen? ⟨jb, 3, none⟩ = false := ⟨HJ.out.blk.cell 3, HJ.out.blk.frozen 3⟩
  have lj := HJ.out.blk.lt
  have hbd := Lib.hid (show (ins).length + 1 ≤ maxLen ∧ ((ins).length + 1) * 16 ≤ 140737488355328 by have := HL3.out; simp only [maxLen]; first | omega | (simp only [List.length_append, List.length_cons, List.length_nil]; omega))
  have HNE : Hid (jb ∉ [b]) := Lib.hid (by have := HJ.out.blk.ty.ne HP.out.ty (by decide); simpa using this)
  rcases hS : nameP r0 with x | ⟨a2, r2⟩
  ·have hr := HR.out
   rw [hS, err_bind] at hr
   have HX := Lib.hid hr.symm
   have HC : Hid (∀ W, Keeps [] y1 W → Calls Tryz.prog 78 #[.pointer (some ⟨b, 0, none⟩)] W fun e w' => Thrown x e w' ∧ Keeps [b] W w') := Lib.hid (fun W z => name_no hS W (HP.out.keep z))
   clear hr hS
   go_wp2_with fail
   go_region_law (first | (refine step_append_lies _ (by rfl) _ _ _ (by rfl) w0.heap.size 9 i0 _ 1 16 Tryz.underlying39 hi hz0 hz1 hz2 rfl (by decide) (.slice A2 (ins).length c2) (ins).length (strs (ins)) (by rfl) ((HJ.out.ps HP.out hk6.undrew).o3.alloc _) ⟨w6.heap.size, 0, none⟩ 1 1 [.string (bs [])] (by rfl) rfl (World.news_of_block (heap_alloc_new _ _)) (by simp [Value.oneCell']) (by decide) hbd.out.1 hbd.out.2 (by have := HK.out.size; have := hk6.size; have h9 : y1.drew.heap.size = y1.heap.size := rfl; simp; omega) _ rfl ?_; intro gw cap w7 hown7 hgrow7 hat7 hlt7; obtain ⟨fS7, fZ7⟩ := fld_grown hgrow7 (fld_alloc ⟨fS6, fZ6⟩ _) (fun e => (own_ty (HJ.out.ps HP.out hk6.undrew).o3 jb e).ne (HJ.out.ps HP.out hk6.undrew).blk.ty (by decide) rfl)) | (go_simp; go_at_call 78; refine (HC.out _ (Keeps.refl [] y1).drew).mono ?_; rintro e w6 ⟨⟨gi, rfl, hb⟩, hk6⟩; obtain ⟨fS6, fZ6⟩ := fld_keeps hk6 fS HNE.out; have gl6 : jb < w6.heap.size := World.block_lt_of_cell? w6 ⟨jb, 3, none⟩ fS6; dsimp only; (go_loud (refine fake_way ‹∀ (a : Act) (w : World), wpAny _ _ _ _ _ _ a w → _› (some 64) (.string (bs [])) ⟨rfl, by rw [HX.out]; exact ⟨gi, rfl, hb⟩, HK.out.trans hk6.undrew⟩ (fun hF => ?_)))))
   all_goals exact hF.out.elim
  have hr := HR.out
  rw [hS, ok_bind] at hr
  try dsimp only at hr
  clear HR
  have HR := Lib.hid hr
  clear hr
  have HC : Hid (∀ W, Keeps [] y1 W → Calls Tryz.prog 78 #[.pointer (some ⟨b, 0, none⟩)] W fun e w' => e = .returned (.string (bs a2)) ∧ Ps w' b r2 ∧ Keeps [b] W w') := Lib.hid (fun W z => name_yes hS W (HP.out.keep z))
  have HLR : Hid (r2.length ≤ l.length) := Lib.hid (by have := HLQ.out; have := nameP_len hS; omega)
  clear HLQ
  have HLQ := HLR
  clear HLR
  clear hS
  go_cut [] (fun wx => ∃ vz2, JbIs wx w0.heap.size jb (⟨at_, 5, outs, ins ++ [a2], cols, op, left, right, retry⟩ : Jb) v2 vz2 v4 ∧ Ps wx b r2 ∧ Keeps [b] w0 wx)
  case first =>
   go_region_law (first | (refine step_append_lies _ (by rfl) _ _ _ (by rfl) w0.heap.size 9 i0 _ 1 16 Tryz.underlying39 hi hz0 hz1 hz2 rfl (by decide) (.slice A2 (ins).length c2) (ins).length (strs (ins)) (by rfl) ((HJ.out.ps HP.out hk6.undrew).o3.alloc _) ⟨w6.heap.size, 0, none⟩ 1 1 [.string (bs a2)] (by rfl) rfl (World.news_of_block (heap_alloc_new _ _)) (by simp [Value.oneCell']) (by decide) hbd.out.1 hbd.out.2 (by have := HK.out.size; have := hk6.size; have h9 : y1.drew.heap.size = y1.heap.size := rfl; simp; omega) _ rfl ?_; intro gw cap w7 hown7 hgrow7 hat7 hlt7; obtain ⟨fS7, fZ7⟩ := fld_grown hgrow7 (fld_alloc ⟨fS6, fZ6⟩ _) (fun e => (own_ty (HJ.out.ps HP.out hk6.undrew).o3 jb e).ne (HJ.out.ps HP.out hk6.undrew).blk.ty (by decide) rfl)) | (go_simp; go_at_call 78; refine (HC.out _ (Keeps.refl [] y1).drew).mono ?_; rintro e w6 ⟨rfl, hp6, hk6⟩; obtain ⟨fS6, fZ6⟩ := fld_keeps hk6 fS HNE.out; have gl6 : jb < w6.heap.size := World.block_lt_of_cell? w6 ⟨jb, 3, none⟩ fS6))
   all_goals
    go_wp2
    go_meet
    have hh := JbIs.app3 (HJ.out.ps HP.out hk6.undrew) hp6 (HK.out.trans hk6.undrew) rfl HJB.out hgrow7 rfl hown7 hat7 (by simp)
    exact ⟨_, hh.1, hh.2.1, hh.2.2⟩
  case rest =>
   obtain ⟨vz2, hj, hp, hk⟩ := hcut
   obtain ⟨y2, rfl⟩ : ∃ y : World, y = wc := ⟨_, rfl⟩
   clear HP HJ HK HC fS lj hbd HNE
   have HP := Lib.hid hp
   have HJ := Lib.hid hj
   have HK := Lib.hid hk
   have HLN : Hid ((ins ++ [a2]).length ≤ 999000 + 2) := Lib.hid (by have := HL3.out; simp only [List.length_append, List.length_cons, List.length_nil]; omega)
   clear hp hj hk HL3
   generalize ins ++ [a2] = il2 at HJ HR HLN
   have HL3 := HLN
   clear HLN
   clear jc1 lj0
   rcases hS : mustP [44] r2 with x | r3
   ·have hr := HR.out
    rw [hS, err_bind] at hr
    have HX := Lib.hid hr.symm
    have HC := Lib.hid (must_no hS y2 HP.out)
    clear hr hS
    go_wp2_with fail
    refine HC.out.mono ?_
    rintro ev w9 ⟨⟨gi, rfl, hb⟩, hk9⟩
    exact ⟨rfl, by rw [HX.out]; exact ⟨gi, rfl, hb⟩, HK.out.trans hk9⟩
   have hr := HR.out
   rw [hS, ok_bind] at hr
   try dsimp only at hr
   clear HR
   have HR := Lib.hid hr
   clear hr
   have HC := Lib.hid (must_yes hS y2 HP.out)
   have HLR : Hid (r3.length ≤ l.length) := Lib.hid (by have := HLQ.out; have := mustP_len hS; omega)
   clear hS HLQ
   have HLQ := HLR
   clear HLR
   go_wp2_with fail
   refine HC.out.mono ?_
   rintro ev y3 ⟨rfl, hp, hk⟩
   have HJ' := Lib.hid (HJ.out.ps HP.out hk)
   have HK' := Lib.hid (HK.out.trans hk)
   clear HP HJ HK HC
   have HP := Lib.hid hp
   have HJ := HJ'
   have HK := HK'
   clear hp hk HJ' HK'
   go_upto_region 12 with (fail)
   obtain ⟨A4, c4, hv, -⟩ := own_form HJ.out.o3
   subst hv
   have fS : y3.cell? ⟨jb, 3, none⟩ = some (.slice A4 (il2).length c4) ∧ y3.frozen? ⟨jb, 3, none⟩ = false := ⟨HJ.out.blk.cell 3, HJ.out.blk.frozen 3⟩
   have lj := HJ.out.blk.lt
   have hbd := Lib.hid (show (il2).length + 1 ≤ maxLen ∧ ((il2).length + 1) * 16 ≤ 140737488355328 by have := HL3.out; simp only [maxLen]; first | omega | (simp only [List.length_append, List.length_cons, List.length_nil]; omega))
   have HNE : Hid (jb ∉ [b]) := Lib.hid (by have := HJ.out.blk.ty.ne HP.out.ty (by decide); simpa using this)
   rcases hS : nameP r3 with x | ⟨a4, r4⟩
   ·have hr := HR.out
    rw [hS, err_bind] at hr
    have HX := Lib.hid hr.symm
    have HC : Hid (∀ W, Keeps [] y3 W → Calls Tryz.prog 78 #[.pointer (some ⟨b, 0, none⟩)] W fun e w' => Thrown x e w' ∧ Keeps [b] W w') := Lib.hid (fun W z => name_no hS W (HP.out.keep z))
    clear hr hS
    go_wp2_with fail
    go_region_law (first | (refine step_append_lies _ (by rfl) _ _ _ (by rfl) w0.heap.size 9 i0 _ 1 16 Tryz.underlying39 hi hz0 hz1 hz2 rfl (by decide) (.slice A4 (il2).length c4) (il2).length (strs (il2)) (by rfl) ((HJ.out.ps HP.out hk6.undrew).o3.alloc _) ⟨w6.heap.size, 0, none⟩ 1 1 [.string (bs [])] (by rfl) rfl (World.news_of_block (heap_alloc_new _ _)) (by simp [Value.oneCell']) (by decide) hbd.out.1 hbd.out.2 (by have := HK.out.size; have := hk6.size; have h9 : y3.drew.heap.size = y3.heap.size := rfl; simp; omega) _ rfl ?_; intro gw cap w7 hown7 hgrow7 hat7 hlt7; obtain ⟨fS7, fZ7⟩ := fld_grown hgrow7 (fld_alloc ⟨fS6, fZ6⟩ _) (fun e => (own_ty (HJ.out.ps HP.out hk6.undrew).o3 jb e).ne (HJ.out.ps HP.out hk6.undrew).blk.ty (by decide) rfl)) | (go_simp; go_at_call 78; refine (HC.out _ (Keeps.refl [] y3).drew).mono ?_; rintro e w6 ⟨⟨gi, rfl, hb⟩, hk6⟩; obtain ⟨fS6, fZ6⟩ := fld_keeps hk6 fS HNE.out; have gl6 : jb < w6.heap.size := World.block_lt_of_cell? w6 ⟨jb, 3, none⟩ fS6; dsimp only; (go_loud (refine fake_way ‹∀ (a : Act) (w : World), wpAny _ _ _ _ _ _ a w → _› (some 77) (.string (bs [])) ⟨rfl, by rw [HX.out]; exact ⟨gi, rfl, hb⟩, HK.out.trans hk6.undrew⟩ (fun hF => ?_)))))
    all_goals exact hF.out.elim
   have hr := HR.out
   rw [hS, ok_bind] at hr
   try dsimp only at hr
   clear HR
   have HR := Lib.hid hr
   clear hr
   have HC : Hid (∀ W, Keeps [] y3 W → Calls Tryz.prog 78 #[.pointer (some ⟨b, 0, none⟩)] W fun e w' => e = .returned (.string (bs a4)) ∧ Ps w' b r4 ∧ Keeps [b] W w') := Lib.hid (fun W z => name_yes hS W (HP.out.keep z))
   have HLR : Hid (r4.length ≤ l.length) := Lib.hid (by have := HLQ.out; have := nameP_len hS; omega)
   clear HLQ
   have HLQ := HLR
   clear HLR
   clear hS
   have HX := Lib.hid HR.out.symm
   clear HR
   go_region_law (first | (refine step_append_lies _ (by rfl) _ _ _ (by rfl) w0.heap.size 9 i0 _ 1 16 Tryz.underlying39 hi hz0 hz1 hz2 rfl (by decide) (.slice A4 (il2).length c4) (il2).length (strs (il2)) (by rfl) ((HJ.out.ps HP.out hk6.undrew).o3.alloc _) ⟨w6.heap.size, 0, none⟩ 1 1 [.string (bs a4)] (by rfl) rfl (World.news_of_block (heap_alloc_new _ _)) (by simp [Value.oneCell']) (by decide) hbd.out.1 hbd.out.2 (by have := HK.out.size; have := hk6.size; have h9 : y3.drew.heap.size = y3.heap.size := rfl; simp; omega) _ rfl ?_; intro gw cap w7 hown7 hgrow7 hat7 hlt7; obtain ⟨fS7, fZ7⟩ := fld_grown hgrow7 (fld_alloc ⟨fS6, fZ6⟩ _) (fun e => (own_ty (HJ.out.ps HP.out hk6.undrew).o3 jb e).ne (HJ.out.ps HP.out hk6.undrew).blk.ty (by decide) rfl)) | (go_simp; go_at_call 78; refine (HC.out _ (Keeps.refl [] y3).drew).mono ?_; rintro e w6 ⟨rfl, hp6, hk6⟩; obtain ⟨fS6, fZ6⟩ := fld_keeps hk6 fS HNE.out; have gl6 : jb < w6.heap.size := World.block_lt_of_cell? w6 ⟨jb, 3, none⟩ fS6))
   all_goals
    go_wp2
    first | go_end0 | refine bodyPost_ret (results_none rfl _ _ _) rfl ?_
    try (have hcl := HCL.out; subst hcl)
    have hh := JbIs.app3 (HJ.out.ps HP.out hk6.undrew) hp6 (HK.out.trans hk6.undrew) rfl HJB.out hgrow7 rfl hown7 hat7 (by simp)
    exact ⟨by rw [HX.out]; exact ⟨rfl, ⟨_, _, _, hh.1⟩, hh.2.1⟩, hh.2.2⟩
end Go.Proofs.YtnjjajanfedjiaaGreatDoor
