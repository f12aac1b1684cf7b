/- The parser's body at its codes. The parser's body at its codes. The parser's body at its codes. -/
import Derived.Test.YtnjjajanfedjiaaGreatDoorPtuM9
set_option linter.unusedSimpArgs false
set_option linter.unusedVariables false
namespace Go.Proofs.YtnjjajanfedjiaaGreatDoor
open Go.RowKit Go.BigFrame
attribute [local go_sem] bs_size bs_extract bs_append bs_toList
set_option maxRecDepth 100000 in
set_option maxHeartbeats 8000000 in
theorem body_1 {l : List Tk} {b jb lo : Nat} {v2 v3 v4 : Value} (at_ code : Int) (outs ins cols : List Bs) (op : Bs) (left right : Ar) (retry : Int) (w0 w : World) (hE : FB w0 lo) (hlo : lo ≤ b) (h : Ps w b l) (hk : Keeps [b] w0 w) (hjb : w0.heap.size ≤ jb) (hj : JbIs w w0.heap.size jb ⟨at_, code, outs, ins, cols, op, left, right, retry⟩ v2 v3 v4) (hl3 : ins.length ≤ 1000) (hl4 : cols.length ≤ 1000) (hll : l.length ≤ 1000000) (hcc : wordIx (hdT l).text = 1) (hkd : (hdT l).kind = 1) :
  Calls Tryz.prog 117 #[.pointer (some ⟨b, 0, none⟩), .pointer (some ⟨jb, 0, none⟩)] w fun e w' => JbOut (bodyP ⟨at_, code, outs, ins, cols, op, left, right, retry⟩ l) b w0.heap.size jb e w' ∧ Keeps [b] w0 w' := by
 obtain ⟨i0, hi, hz0, hz1, hz2⟩ := info_parts sinf
 obtain ⟨R, hR⟩ : ∃ R, bodyP ⟨at_, code, outs, ins, cols, op, left, right, retry⟩ l = R := ⟨_, rfl⟩
 rw [hR]
 have HE := Lib.hid hE
 have HP := Lib.hid h
 have HK := Lib.hid hk
 have HJ := Lib.hid hj
 have HJB := Lib.hid hjb
 have HL3 : Hid (ins.length ≤ 999000) := Lib.hid (by omega)
 have HL4 : Hid (cols.length ≤ 999000) := Lib.hid (by omega)
 have HLL := Lib.hid hll
 have HIX : Hid (∀ W, Keeps [] w W → Calls Tryz.prog 90 #[.slice (some ⟨1, 0, none⟩) 10 10, .string (bs (hdT l).text)] W fun e W' => e = .returned (.int .i64 (wordQ (hdT l).text)) ∧ W = W') := Lib.hid (fun W q => index_words (hdT l).text W ((hE.one hlo hk).quiet q).env)
 obtain ⟨q, hq⟩ : ∃ q, wordQ (hdT l).text = q := ⟨_, rfl⟩
 rw [hq] at HIX
 have HQ := Lib.hid hq
 obtain ⟨g, o, c, c0, z0, lb, lg, -, hn, hc, hc2, k0, k1, k2, -⟩ := h.open'
 have hn2 : (0 : Int) < (l.length : Int) := by omega
 have f1 : w.cell? ⟨jb, 1, none⟩ = some (.int .i64 code) := hj.blk.cell 1
 have f2 := hj.blk.frozen 1
 have lj := hj.blk.lt
 have HCC := Lib.hid hcc
 have HR1 : Hid ((nameP l.tail >>= fun p => restP ⟨at_, 1, outs, ins ++ [p.1], cols, op, left, right, retry⟩ p.2) = R) := Lib.hid (by
  rw [← hR]
  unfold bodyP
  rw [hcc, if_neg (by rw [hkd]; decide)]
  rfl)
 have hse : seeP [102, 105, 108, 116, 101, 114] l = true := by
  unfold seeP
  rw [hkd, wordIx_text hcc (by decide)]
  rfl
 have HSE := Lib.hid hse
 have HKD := Lib.hid hkd
 clear hR hE h hk hj hl3 hl4 hll hjb hq hcc hse hkd
 go_enter Tryz.func117, Tryz.ntmps117
 go_upto_region 0 with (fail)
 go_cut [] (fun wx => wx = (w.setCell ⟨jb, 1, none⟩ (.int .i64 (max q 0))).drew)
 case first =>
  go_region_law (first | (go_simp; go_at_call 90; refine (HIX.out _ (Keeps.refl [] w).drew).mono ?_; rintro e w6 ⟨rfl, rfl⟩))
  all_goals
   go_wp2
   go_meet
   exact rfl
 case rest =>
  subst hcut
  clear c0 z0 lb lg hn hc hc2 k0 k1 k2 hn2 lj f1 f2 HIX
  have hkb : Keeps [jb] w ((w.setCell ⟨jb, 1, none⟩ (.int .i64 (max q 0))).drew) := ((Keeps.refl _ _).setCell (.inl (by simp)) _).drew
  have hj' : JbIs ((w.setCell ⟨jb, 1, none⟩ (.int .i64 (max q 0))).drew) w0.heap.size jb ⟨at_, max q 0, outs, ins, cols, op, left, right, retry⟩ v2 v3 v4 := HJ.out.box hkb ((HJ.out.blk.set 1 (.int .i64 (max q 0))).congr (by rfl)) rfl rfl rfl
  have hp' := HP.out.box HJ.out hkb
  have hk' := HK.out.box HJB.out hkb
  have hm : max q 0 = 1 := by rw [← HQ.out, wordQ_max, HCC.out]; rfl
  rw [hm] at hj' hp' hk' ⊢
  clear hm hkb HJ HP HK
  obtain ⟨y0, hy⟩ : ∃ x, (w.setCell ⟨jb, 1, none⟩ (.int .i64 1)).drew = x := ⟨_, rfl⟩
  rw [hy] at hj' hp' hk' ⊢
  have HJ := Lib.hid hj'
  have HP := Lib.hid hp'
  have HK := Lib.hid hk'
  have jc1 : y0.cell? ⟨jb, 1, none⟩ = some (.int .i64 1) := hj'.blk.cell 1
  have lj := hj'.blk.lt
  obtain ⟨g, o, c, c0, z0, lb, lg, -, hn, hc, hc2, k0, k1, k2, -⟩ := hp'.open'
  have hn2 : (0 : Int) < (l.length : Int) := by omega
  clear hy hj' hp' hk' hn hc hc2 HQ
  rw [HKD.out] at k0
  have wd := (HE.out.one hlo HK.out).env.words 1 (by decide)
  have wd2 : y0.cell? ⟨1, 1, none⟩ = some (.string (bs [102, 105, 108, 116, 101, 114])) := wd
  have lwd := World.block_lt_of_cell? _ _ wd2
  clear wd
  go_wp2_with fail
  refine (must_yes (s := [102, 105, 108, 116, 101, 114]) (r := l.tail) (by unfold mustP; rw [if_pos HSE.out]) y0 HP.out).mono ?_
  rintro ev y1 ⟨rfl, hp, hk⟩
  have HJ' := Lib.hid (HJ.out.ps HP.out hk)
  have HK' := Lib.hid (HK.out.trans hk)
  clear HP HJ HK c0 z0 lb lg k0 k1 k2 hn2 jc1 lj wd2 lwd
  have HP := Lib.hid hp
  have HJ := HJ'
  have HK := HK'
  clear hp hk HJ' HK'
  have HR := HR1
  clear HR1
  have HLQ : Hid (l.tail.length ≤ l.length) := Lib.hid (by rw [List.length_tail]; omega)
  obtain ⟨r0, hr0⟩ : ∃ r0, l.tail = r0 := ⟨_, rfl⟩
  rw [hr0] at HP HR HLQ
  clear hr0 HSE HKD HCC
  have jc1 : y1.cell? ⟨jb, 1, none⟩ = some (.int .i64 1) := HJ.out.blk.cell 1
  have lj0 := HJ.out.blk.lt
  go_upto_region 13 with (fail)
  obtain ⟨A2, c2, hv, -⟩ := own_form HJ.out.o3
  subst hv
  have fS : y1.cell? ⟨jb, 3, none⟩ = some (.slice A2 (ins).length c2) ∧ y1.frozen? ⟨jb, 3, none⟩ = false := ⟨HJ.out.blk.cell 3, HJ.out.blk.frozen 3⟩
  have lj := HJ.out.blk.lt
  have hbd := Lib.hid (show (ins).length + 1 ≤ maxLen ∧ ((ins).length + 1) * 16 ≤ 140737488355328 by have := HL3.out; simp only [maxLen]; first | omega | (simp only [List.length_append, List.length_cons, List.length_nil]; omega))
  have HNE : Hid (jb ∉ [b]) := Lib.hid (by have := HJ.out.blk.ty.ne HP.out.ty (by decide); simpa using this)
  rcases hS : nameP r0 with x | ⟨a2, r2⟩
  ·have hr := HR.out
   rw [hS, err_bind] at hr
   have HX := Lib.hid hr.symm
   have HC : Hid (∀ W, Keeps [] y1 W → Calls Tryz.prog 78 #[.pointer (some ⟨b, 0, none⟩)] W fun e w' => Thrown x e w' ∧ Keeps [b] W w') := Lib.hid (fun W z => name_no hS W (HP.out.keep z))
   clear hr hS
   go_wp2_with fail
   go_region_law (first | (refine step_append_lies _ (by rfl) _ _ _ (by rfl) w0.heap.size 9 i0 _ 1 16 Tryz.underlying39 hi hz0 hz1 hz2 rfl (by decide) (.slice A2 (ins).length c2) (ins).length (strs (ins)) (by rfl) ((HJ.out.ps HP.out hk6.undrew).o3.alloc _) ⟨w6.heap.size, 0, none⟩ 1 1 [.string (bs [])] (by rfl) rfl (World.news_of_block (heap_alloc_new _ _)) (by simp [Value.oneCell']) (by decide) hbd.out.1 hbd.out.2 (by have := HK.out.size; have := hk6.size; have h9 : y1.drew.heap.size = y1.heap.size := rfl; simp; omega) _ rfl ?_; intro gw cap w7 hown7 hgrow7 hat7 hlt7; obtain ⟨fS7, fZ7⟩ := fld_grown hgrow7 (fld_alloc ⟨fS6, fZ6⟩ _) (fun e => (own_ty (HJ.out.ps HP.out hk6.undrew).o3 jb e).ne (HJ.out.ps HP.out hk6.undrew).blk.ty (by decide) rfl)) | (go_simp; go_at_call 78; refine (HC.out _ (Keeps.refl [] y1).drew).mono ?_; rintro e w6 ⟨⟨gi, rfl, hb⟩, hk6⟩; obtain ⟨fS6, fZ6⟩ := fld_keeps hk6 fS HNE.out; have gl6 : jb < w6.heap.size := World.block_lt_of_cell? w6 ⟨jb, 3, none⟩ fS6; dsimp only; (go_loud (refine fake_way ‹∀ (a : Act) (w : World), wpAny _ _ _ _ _ _ a w → _› (some 88) (.string (bs [])) ⟨rfl, by rw [HX.out]; exact ⟨gi, rfl, hb⟩, HK.out.trans hk6.undrew⟩ (fun hF => ?_)))))
   all_goals exact hF.out.elim
  have hr := HR.out
  rw [hS, ok_bind] at hr
  try dsimp only at hr
  clear HR
  have HR := Lib.hid hr
  clear hr
  have HC : Hid (∀ W, Keeps [] y1 W → Calls Tryz.prog 78 #[.pointer (some ⟨b, 0, none⟩)] W fun e w' => e = .returned (.string (bs a2)) ∧ Ps w' b r2 ∧ Keeps [b] W w') := Lib.hid (fun W z => name_yes hS W (HP.out.keep z))
  have HLR : Hid (r2.length ≤ l.length) := Lib.hid (by have := HLQ.out; have := nameP_len hS; omega)
  clear HLQ
  have HLQ := HLR
  clear HLR
  clear hS
  go_cut [] (fun wx => ∃ vz2, JbIs wx w0.heap.size jb (⟨at_, 1, outs, ins ++ [a2], cols, op, left, right, retry⟩ : Jb) v2 vz2 v4 ∧ Ps wx b r2 ∧ Keeps [b] w0 wx)
  case first =>
   go_region_law (first | (refine step_append_lies _ (by rfl) _ _ _ (by rfl) w0.heap.size 9 i0 _ 1 16 Tryz.underlying39 hi hz0 hz1 hz2 rfl (by decide) (.slice A2 (ins).length c2) (ins).length (strs (ins)) (by rfl) ((HJ.out.ps HP.out hk6.undrew).o3.alloc _) ⟨w6.heap.size, 0, none⟩ 1 1 [.string (bs a2)] (by rfl) rfl (World.news_of_block (heap_alloc_new _ _)) (by simp [Value.oneCell']) (by decide) hbd.out.1 hbd.out.2 (by have := HK.out.size; have := hk6.size; have h9 : y1.drew.heap.size = y1.heap.size := rfl; simp; omega) _ rfl ?_; intro gw cap w7 hown7 hgrow7 hat7 hlt7; obtain ⟨fS7, fZ7⟩ := fld_grown hgrow7 (fld_alloc ⟨fS6, fZ6⟩ _) (fun e => (own_ty (HJ.out.ps HP.out hk6.undrew).o3 jb e).ne (HJ.out.ps HP.out hk6.undrew).blk.ty (by decide) rfl)) | (go_simp; go_at_call 78; refine (HC.out _ (Keeps.refl [] y1).drew).mono ?_; rintro e w6 ⟨rfl, hp6, hk6⟩; obtain ⟨fS6, fZ6⟩ := fld_keeps hk6 fS HNE.out; have gl6 : jb < w6.heap.size := World.block_lt_of_cell? w6 ⟨jb, 3, none⟩ fS6))
   all_goals
    go_wp2
    go_meet
    have hh := JbIs.app3 (HJ.out.ps HP.out hk6.undrew) hp6 (HK.out.trans hk6.undrew) rfl HJB.out hgrow7 rfl hown7 hat7 (by simp)
    exact ⟨_, hh.1, hh.2.1, hh.2.2⟩
  case rest =>
   obtain ⟨vz2, hj, hp, hk⟩ := hcut
   obtain ⟨y2, rfl⟩ : ∃ y : World, y = wc := ⟨_, rfl⟩
   clear HP HJ HK HC fS lj hbd HNE
   have HP := Lib.hid hp
   have HJ := Lib.hid hj
   have HK := Lib.hid hk
   have HLN : Hid ((ins ++ [a2]).length ≤ 999000 + 2) := Lib.hid (by have := HL3.out; simp only [List.length_append, List.length_cons, List.length_nil]; omega)
   clear hp hj hk HL3
   generalize ins ++ [a2] = il2 at HJ HR HLN
   have HL3 := HLN
   clear HLN
   clear jc1 lj0
   have jc1 : y2.cell? ⟨jb, 1, none⟩ = some (.int .i64 1) := HJ.out.blk.cell 1
   have lj0 := HJ.out.blk.lt
   have hr := HR.out
   clear HR
   have HR : Hid (whereP (⟨at_, 1, outs, il2, cols, op, left, right, retry⟩ : Jb) r2 = R) := Lib.hid hr
   clear hr
   have hc := where_any at_ 1 outs (il2) (cols) op left right retry w0 y2 HE.out hlo HP.out HK.out HJB.out HJ.out (by have := HL3.out; first | omega | (simp only [List.length_append, List.length_cons, List.length_nil]; omega)) (by have := HL4.out; first | omega | (simp only [List.length_append, List.length_cons, List.length_nil]; omega)) (Nat.le_trans HLQ.out HLL.out)
   have hr := HR.out
   rcases hS : whereP (⟨at_, 1, outs, il2, cols, op, left, right, retry⟩ : Jb) r2 with x | ⟨j3, r3⟩
   ·rw [hS] at hr hc
    have HX := Lib.hid hr.symm
    have HC2 := Lib.hid hc
    clear hr hS hc
    go_wp2_with fail
    refine HC2.out.mono ?_
    rintro ev w9 ⟨⟨gi, rfl, hb⟩, hk9⟩
    exact ⟨rfl, by rw [HX.out]; exact ⟨gi, rfl, hb⟩, hk9⟩
   rw [hS] at hr hc
   have HX := Lib.hid hr.symm
   have HC := Lib.hid hc
   clear hr hS hc
   go_wp2_with fail
   refine HC.out.mono ?_
   rintro ev y3 ⟨⟨rfl, ⟨va, vb, vc, hj⟩, hp⟩, hk⟩
   go_wp2
   first | go_end0 | refine bodyPost_ret (results_none rfl _ _ _) rfl ?_
   exact ⟨by rw [HX.out]; exact ⟨rfl, ⟨_, _, _, hj⟩, hp⟩, hk⟩
set_option maxRecDepth 100000 in
set_option maxHeartbeats 8000000 in
theorem body_9 {l : List Tk} {b jb lo : Nat} {v2 v3 v4 : Value} (at_ code : Int) (outs ins cols : List Bs) (op : Bs) (left right : Ar) (retry : Int) (w0 w : World) (hE : FB w0 lo) (hlo : lo ≤ b) (h : Ps w b l) (hk : Keeps [b] w0 w) (hjb : w0.heap.size ≤ jb) (hj : JbIs w w0.heap.size jb ⟨at_, code, outs, ins, cols, op, left, right, retry⟩ v2 v3 v4) (hl3 : ins.length ≤ 1000) (hl4 : cols.length ≤ 1000) (hll : l.length ≤ 1000000) (hcc : wordIx (hdT l).text = 9) (hkd : (hdT l).kind = 1) :
  Calls Tryz.prog 117 #[.pointer (some ⟨b, 0, none⟩), .pointer (some ⟨jb, 0, none⟩)] w fun e w' => JbOut (bodyP ⟨at_, code, outs, ins, cols, op, left, right, retry⟩ l) b w0.heap.size jb e w' ∧ Keeps [b] w0 w' := by
 obtain ⟨i0, hi, hz0, hz1, hz2⟩ := info_parts sinf
 obtain ⟨R, hR⟩ : ∃ R, bodyP ⟨at_, code, outs, ins, cols, op, left, right, retry⟩ l = R := ⟨_, rfl⟩
 rw [hR]
 have HE := Lib.hid hE
 have HP := Lib.hid h
 have HK := Lib.hid hk
 have HJ := Lib.hid hj
 have HJB := Lib.hid hjb
 have HL3 : Hid (ins.length ≤ 999000) := Lib.hid (by omega)
 have HL4 : Hid (cols.length ≤ 999000) := Lib.hid (by omega)
 have HLL := Lib.hid hll
 have HIX : Hid (∀ W, Keeps [] w W → Calls Tryz.prog 90 #[.slice (some ⟨1, 0, none⟩) 10 10, .string (bs (hdT l).text)] W fun e W' => e = .returned (.int .i64 (wordQ (hdT l).text)) ∧ W = W') := Lib.hid (fun W q => index_words (hdT l).text W ((hE.one hlo hk).quiet q).env)
 obtain ⟨q, hq⟩ : ∃ q, wordQ (hdT l).text = q := ⟨_, rfl⟩
 rw [hq] at HIX
 have HQ := Lib.hid hq
 obtain ⟨g, o, c, c0, z0, lb, lg, -, hn, hc, hc2, k0, k1, k2, -⟩ := h.open'
 have hn2 : (0 : Int) < (l.length : Int) := by omega
 have f1 : w.cell? ⟨jb, 1, none⟩ = some (.int .i64 code) := hj.blk.cell 1
 have f2 := hj.blk.frozen 1
 have lj := hj.blk.lt
 have HCC := Lib.hid hcc
 have HR1 : Hid ((nameP l.tail >>= fun p => restP ⟨at_, 9, outs, ins ++ [p.1], cols, op, left, right, retry⟩ p.2) = R) := Lib.hid (by
  rw [← hR]
  unfold bodyP
  rw [hcc, if_neg (by rw [hkd]; decide)]
  rfl)
 have hse : seeP [115, 112, 108, 105, 116] l = true := by
  unfold seeP
  rw [hkd, wordIx_text hcc (by decide)]
  rfl
 have HSE := Lib.hid hse
 have HKD := Lib.hid hkd
 clear hR hE h hk hj hl3 hl4 hll hjb hq hcc hse hkd
 go_enter Tryz.func117, Tryz.ntmps117
 go_upto_region 0 with (fail)
 go_cut [] (fun wx => wx = (w.setCell ⟨jb, 1, none⟩ (.int .i64 (max q 0))).drew)
 case first =>
  go_region_law (first | (go_simp; go_at_call 90; refine (HIX.out _ (Keeps.refl [] w).drew).mono ?_; rintro e w6 ⟨rfl, rfl⟩))
  all_goals
   go_wp2
   go_meet
   exact rfl
 case rest =>
  subst hcut
  clear c0 z0 lb lg hn hc hc2 k0 k1 k2 hn2 lj f1 f2 HIX
  have hkb : Keeps [jb] w ((w.setCell ⟨jb, 1, none⟩ (.int .i64 (max q 0))).drew) := ((Keeps.refl _ _).setCell (.inl (by simp)) _).drew
  have hj' : JbIs ((w.setCell ⟨jb, 1, none⟩ (.int .i64 (max q 0))).drew) w0.heap.size jb ⟨at_, max q 0, outs, ins, cols, op, left, right, retry⟩ v2 v3 v4 := HJ.out.box hkb ((HJ.out.blk.set 1 (.int .i64 (max q 0))).congr (by rfl)) rfl rfl rfl
  have hp' := HP.out.box HJ.out hkb
  have hk' := HK.out.box HJB.out hkb
  have hm : max q 0 = 9 := by rw [← HQ.out, wordQ_max, HCC.out]; rfl
  rw [hm] at hj' hp' hk' ⊢
  clear hm hkb HJ HP HK
  obtain ⟨y0, hy⟩ : ∃ x, (w.setCell ⟨jb, 1, none⟩ (.int .i64 9)).drew = x := ⟨_, rfl⟩
  rw [hy] at hj' hp' hk' ⊢
  have HJ := Lib.hid hj'
  have HP := Lib.hid hp'
  have HK := Lib.hid hk'
  have jc1 : y0.cell? ⟨jb, 1, none⟩ = some (.int .i64 9) := hj'.blk.cell 1
  have lj := hj'.blk.lt
  obtain ⟨g, o, c, c0, z0, lb, lg, -, hn, hc, hc2, k0, k1, k2, -⟩ := hp'.open'
  have hn2 : (0 : Int) < (l.length : Int) := by omega
  clear hy hj' hp' hk' hn hc hc2 HQ
  rw [HKD.out] at k0
  have wd := (HE.out.one hlo HK.out).env.words 9 (by decide)
  have wd2 : y0.cell? ⟨1, 9, none⟩ = some (.string (bs [115, 112, 108, 105, 116])) := wd
  have lwd := World.block_lt_of_cell? _ _ wd2
  clear wd
  go_wp2_with fail
  refine (must_yes (s := [115, 112, 108, 105, 116]) (r := l.tail) (by unfold mustP; rw [if_pos HSE.out]) y0 HP.out).mono ?_
  rintro ev y1 ⟨rfl, hp, hk⟩
  have HJ' := Lib.hid (HJ.out.ps HP.out hk)
  have HK' := Lib.hid (HK.out.trans hk)
  clear HP HJ HK c0 z0 lb lg k0 k1 k2 hn2 jc1 lj wd2 lwd
  have HP := Lib.hid hp
  have HJ := HJ'
  have HK := HK'
  clear hp hk HJ' HK'
  have HR := HR1
  clear HR1
  have HLQ : Hid (l.tail.length ≤ l.length) := Lib.hid (by rw [List.length_tail]; omega)
  obtain ⟨r0, hr0⟩ : ∃ r0, l.tail = r0 := ⟨_, rfl⟩
  rw [hr0] at HP HR HLQ
  clear hr0 HSE HKD HCC
  have jc1 : y1.cell? ⟨jb, 1, none⟩ = some (.int .i64 9) := HJ.out.blk.cell 1
  have lj0 := HJ.out.blk.lt
  go_upto_region 13 with (fail)
  obtain ⟨A2, c2, hv, -⟩ := own_form HJ.out.o3
  subst hv
  have fS : y1.cell? ⟨jb, 3, none⟩ = some (.slice A2 (ins).length c2) ∧ y1.frozen? ⟨jb, 3, none⟩ = false := ⟨HJ.out.blk.cell 3, HJ.out.blk.frozen 3⟩
  have lj := HJ.out.blk.lt
  have hbd := Lib.hid (show (ins).length + 1 ≤ maxLen ∧ ((ins).length + 1) * 16 ≤ 140737488355328 by have := HL3.out; simp only [maxLen]; first | omega | (simp only [List.length_append, List.length_cons, List.length_nil]; omega))
  have HNE : Hid (jb ∉ [b]) := Lib.hid (by have := HJ.out.blk.ty.ne HP.out.ty (by decide); simpa using this)
  rcases hS : nameP r0 with x | ⟨a2, r2⟩
  ·have hr := HR.out
   rw [hS, err_bind] at hr
   have HX := Lib.hid hr.symm
   have HC : Hid (∀ W, Keeps [] y1 W → Calls Tryz.prog 78 #[.pointer (some ⟨b, 0, none⟩)] W fun e w' => Thrown x e w' ∧ Keeps [b] W w') := Lib.hid (fun W z => name_no hS W (HP.out.keep z))
   clear hr hS
   go_wp2_with fail
   go_region_law (first | (refine step_append_lies _ (by rfl) _ _ _ (by rfl) w0.heap.size 9 i0 _ 1 16 Tryz.underlying39 hi hz0 hz1 hz2 rfl (by decide) (.slice A2 (ins).length c2) (ins).length (strs (ins)) (by rfl) ((HJ.out.ps HP.out hk6.undrew).o3.alloc _) ⟨w6.heap.size, 0, none⟩ 1 1 [.string (bs [])] (by rfl) rfl (World.news_of_block (heap_alloc_new _ _)) (by simp [Value.oneCell']) (by decide) hbd.out.1 hbd.out.2 (by have := HK.out.size; have := hk6.size; have h9 : y1.drew.heap.size = y1.heap.size := rfl; simp; omega) _ rfl ?_; intro gw cap w7 hown7 hgrow7 hat7 hlt7; obtain ⟨fS7, fZ7⟩ := fld_grown hgrow7 (fld_alloc ⟨fS6, fZ6⟩ _) (fun e => (own_ty (HJ.out.ps HP.out hk6.undrew).o3 jb e).ne (HJ.out.ps HP.out hk6.undrew).blk.ty (by decide) rfl)) | (go_simp; go_at_call 78; refine (HC.out _ (Keeps.refl [] y1).drew).mono ?_; rintro e w6 ⟨⟨gi, rfl, hb⟩, hk6⟩; obtain ⟨fS6, fZ6⟩ := fld_keeps hk6 fS HNE.out; have gl6 : jb < w6.heap.size := World.block_lt_of_cell? w6 ⟨jb, 3, none⟩ fS6; dsimp only; (go_loud (refine fake_way ‹∀ (a : Act) (w : World), wpAny _ _ _ _ _ _ a w → _› (some 88) (.string (bs [])) ⟨rfl, by rw [HX.out]; exact ⟨gi, rfl, hb⟩, HK.out.trans hk6.undrew⟩ (fun hF => ?_)))))
   all_goals exact hF.out.elim
  have hr := HR.out
  rw [hS, ok_bind] at hr
  try dsimp only at hr
  clear HR
  have HR := Lib.hid hr
  clear hr
  have HC : Hid (∀ W, Keeps [] y1 W → Calls Tryz.prog 78 #[.pointer (some ⟨b, 0, none⟩)] W fun e w' => e = .returned (.string (bs a2)) ∧ Ps w' b r2 ∧ Keeps [b] W w') := Lib.hid (fun W z => name_yes hS W (HP.out.keep z))
  have HLR : Hid (r2.length ≤ l.length) := Lib.hid (by have := HLQ.out; have := nameP_len hS; omega)
  clear HLQ
  have HLQ := HLR
  clear HLR
  clear hS
  go_cut [] (fun wx => ∃ vz2, JbIs wx w0.heap.size jb (⟨at_, 9, outs, ins ++ [a2], cols, op, left, right, retry⟩ : Jb) v2 vz2 v4 ∧ Ps wx b r2 ∧ Keeps [b] w0 wx)
  case first =>
   go_region_law (first | (refine step_append_lies _ (by rfl) _ _ _ (by rfl) w0.heap.size 9 i0 _ 1 16 Tryz.underlying39 hi hz0 hz1 hz2 rfl (by decide) (.slice A2 (ins).length c2) (ins).length (strs (ins)) (by rfl) ((HJ.out.ps HP.out hk6.undrew).o3.alloc _) ⟨w6.heap.size, 0, none⟩ 1 1 [.string (bs a2)] (by rfl) rfl (World.news_of_block (heap_alloc_new _ _)) (by simp [Value.oneCell']) (by decide) hbd.out.1 hbd.out.2 (by have := HK.out.size; have := hk6.size; have h9 : y1.drew.heap.size = y1.heap.size := rfl; simp; omega) _ rfl ?_; intro gw cap w7 hown7 hgrow7 hat7 hlt7; obtain ⟨fS7, fZ7⟩ := fld_grown hgrow7 (fld_alloc ⟨fS6, fZ6⟩ _) (fun e => (own_ty (HJ.out.ps HP.out hk6.undrew).o3 jb e).ne (HJ.out.ps HP.out hk6.undrew).blk.ty (by decide) rfl)) | (go_simp; go_at_call 78; refine (HC.out _ (Keeps.refl [] y1).drew).mono ?_; rintro e w6 ⟨rfl, hp6, hk6⟩; obtain ⟨fS6, fZ6⟩ := fld_keeps hk6 fS HNE.out; have gl6 : jb < w6.heap.size := World.block_lt_of_cell? w6 ⟨jb, 3, none⟩ fS6))
   all_goals
    go_wp2
    go_meet
    have hh := JbIs.app3 (HJ.out.ps HP.out hk6.undrew) hp6 (HK.out.trans hk6.undrew) rfl HJB.out hgrow7 rfl hown7 hat7 (by simp)
    exact ⟨_, hh.1, hh.2.1, hh.2.2⟩
  case rest =>
   obtain ⟨vz2, hj, hp, hk⟩ := hcut
   obtain ⟨y2, rfl⟩ : ∃ y : World, y = wc := ⟨_, rfl⟩
   clear HP HJ HK HC fS lj hbd HNE
   have HP := Lib.hid hp
   have HJ := Lib.hid hj
   have HK := Lib.hid hk
   have HLN : Hid ((ins ++ [a2]).length ≤ 999000 + 2) := Lib.hid (by have := HL3.out; simp only [List.length_append, List.length_cons, List.length_nil]; omega)
   clear hp hj hk HL3
   generalize ins ++ [a2] = il2 at HJ HR HLN
   have HL3 := HLN
   clear HLN
   clear jc1 lj0
   have jc1 : y2.cell? ⟨jb, 1, none⟩ = some (.int .i64 9) := HJ.out.blk.cell 1
   have lj0 := HJ.out.blk.lt
   have hr := HR.out
   clear HR
   have HR : Hid (whereP (⟨at_, 9, outs, il2, cols, op, left, right, retry⟩ : Jb) r2 = R) := Lib.hid hr
   clear hr
   have hc := where_any at_ 9 outs (il2) (cols) op left right retry w0 y2 HE.out hlo HP.out HK.out HJB.out HJ.out (by have := HL3.out; first | omega | (simp only [List.length_append, List.length_cons, List.length_nil]; omega)) (by have := HL4.out; first | omega | (simp only [List.length_append, List.length_cons, List.length_nil]; omega)) (Nat.le_trans HLQ.out HLL.out)
   have hr := HR.out
   rcases hS : whereP (⟨at_, 9, outs, il2, cols, op, left, right, retry⟩ : Jb) r2 with x | ⟨j3, r3⟩
   ·rw [hS] at hr hc
    have HX := Lib.hid hr.symm
    have HC2 := Lib.hid hc
    clear hr hS hc
    go_wp2_with fail
    refine HC2.out.mono ?_
    rintro ev w9 ⟨⟨gi, rfl, hb⟩, hk9⟩
    exact ⟨rfl, by rw [HX.out]; exact ⟨gi, rfl, hb⟩, hk9⟩
   rw [hS] at hr hc
   have HX := Lib.hid hr.symm
   have HC := Lib.hid hc
   clear hr hS hc
   go_wp2_with fail
   refine HC.out.mono ?_
   rintro ev y3 ⟨⟨rfl, ⟨va, vb, vc, hj⟩, hp⟩, hk⟩
   go_wp2
   first | go_end0 | refine bodyPost_ret (results_none rfl _ _ _) rfl ?_
   exact ⟨by rw [HX.out]; exact ⟨rfl, ⟨_, _, _, hj⟩, hp⟩, hk⟩
set_option maxRecDepth 100000 in
set_option maxHeartbeats 8000000 in
theorem body_6 {l : List Tk} {b jb lo : Nat} {v2 v3 v4 : Value} (at_ code : Int) (outs ins cols : List Bs) (op : Bs) (left right : Ar) (retry : Int) (w0 w : World) (hE : FB w0 lo) (hlo : lo ≤ b) (h : Ps w b l) (hk : Keeps [b] w0 w) (hjb : w0.heap.size ≤ jb) (hj : JbIs w w0.heap.size jb ⟨at_, code, outs, ins, cols, op, left, right, retry⟩ v2 v3 v4) (hl3 : ins.length ≤ 1000) (hl4 : cols.length ≤ 1000) (hll : l.length ≤ 1000000) (hcc : wordIx (hdT l).text = 6) (hkd : (hdT l).kind = 1) :
  Calls Tryz.prog 117 #[.pointer (some ⟨b, 0, none⟩), .pointer (some ⟨jb, 0, none⟩)] w fun e w' => JbOut (bodyP ⟨at_, code, outs, ins, cols, op, left, right, retry⟩ l) b w0.heap.size jb e w' ∧ Keeps [b] w0 w' := by
 obtain ⟨i0, hi, hz0, hz1, hz2⟩ := info_parts sinf
 obtain ⟨R, hR⟩ : ∃ R, bodyP ⟨at_, code, outs, ins, cols, op, left, right, retry⟩ l = R := ⟨_, rfl⟩
 rw [hR]
 have HE := Lib.hid hE
 have HP := Lib.hid h
 have HK := Lib.hid hk
 have HJ := Lib.hid hj
 have HJB := Lib.hid hjb
 have HL3 : Hid (ins.length ≤ 999000) := Lib.hid (by omega)
 have HL4 : Hid (cols.length ≤ 999000) := Lib.hid (by omega)
 have HLL := Lib.hid hll
 have HIX : Hid (∀ W, Keeps [] w W → Calls Tryz.prog 90 #[.slice (some ⟨1, 0, none⟩) 10 10, .string (bs (hdT l).text)] W fun e W' => e = .returned (.int .i64 (wordQ (hdT l).text)) ∧ W = W') := Lib.hid (fun W q => index_words (hdT l).text W ((hE.one hlo hk).quiet q).env)
 obtain ⟨q, hq⟩ : ∃ q, wordQ (hdT l).text = q := ⟨_, rfl⟩
 rw [hq] at HIX
 have HQ := Lib.hid hq
 obtain ⟨g, o, c, c0, z0, lb, lg, -, hn, hc, hc2, k0, k1, k2, -⟩ := h.open'
 have hn2 : (0 : Int) < (l.length : Int) := by omega
 have f1 : w.cell? ⟨jb, 1, none⟩ = some (.int .i64 code) := hj.blk.cell 1
 have f2 := hj.blk.frozen 1
 have lj := hj.blk.lt
 have HCC := Lib.hid hcc
 have HR1 : Hid ((nameP l.tail >>= fun p => restP ⟨at_, 6, outs, ins ++ [p.1], cols, op, left, right, retry⟩ p.2) = R) := Lib.hid (by
  rw [← hR]
  unfold bodyP
  rw [hcc, if_neg (by rw [hkd]; decide)]
  rfl)
 have hse : seeP [100, 105, 115, 116, 105, 110, 99, 116] l = true := by
  unfold seeP
  rw [hkd, wordIx_text hcc (by decide)]
  rfl
 have HSE := Lib.hid hse
 have HKD := Lib.hid hkd
 clear hR hE h hk hj hl3 hl4 hll hjb hq hcc hse hkd
 go_enter Tryz.func117, Tryz.ntmps117
 go_upto_region 0 with (fail)
 go_cut [] (fun wx => wx = (w.setCell ⟨jb, 1, none⟩ (.int .i64 (max q 0))).drew)
 case first =>
  go_region_law (first | (go_simp; go_at_call 90; refine (HIX.out _ (Keeps.refl [] w).drew).mono ?_; rintro e w6 ⟨rfl, rfl⟩))
  all_goals
   go_wp2
   go_meet
   exact rfl
 case rest =>
  subst hcut
  clear c0 z0 lb lg hn hc hc2 k0 k1 k2 hn2 lj f1 f2 HIX
  have hkb : Keeps [jb] w ((w.setCell ⟨jb, 1, none⟩ (.int .i64 (max q 0))).drew) := ((Keeps.refl _ _).setCell (.inl (by simp)) _).drew
  have hj' : JbIs ((w.setCell ⟨jb, 1, none⟩ (.int .i64 (max q 0))).drew) w0.heap.size jb ⟨at_, max q 0, outs, ins, cols, op, left, right, retry⟩ v2 v3 v4 := HJ.out.box hkb ((HJ.out.blk.set 1 (.int .i64 (max q 0))).congr (by rfl)) rfl rfl rfl
  have hp' := HP.out.box HJ.out hkb
  have hk' := HK.out.box HJB.out hkb
  have hm : max q 0 = 6 := by rw [← HQ.out, wordQ_max, HCC.out]; rfl
  rw [hm] at hj' hp' hk' ⊢
  clear hm hkb HJ HP HK
  obtain ⟨y0, hy⟩ : ∃ x, (w.setCell ⟨jb, 1, none⟩ (.int .i64 6)).drew = x := ⟨_, rfl⟩
  rw [hy] at hj' hp' hk' ⊢
  have HJ := Lib.hid hj'
  have HP := Lib.hid hp'
  have HK := Lib.hid hk'
  have jc1 : y0.cell? ⟨jb, 1, none⟩ = some (.int .i64 6) := hj'.blk.cell 1
  have lj := hj'.blk.lt
  obtain ⟨g, o, c, c0, z0, lb, lg, -, hn, hc, hc2, k0, k1, k2, -⟩ := hp'.open'
  have hn2 : (0 : Int) < (l.length : Int) := by omega
  clear hy hj' hp' hk' hn hc hc2 HQ
  rw [HKD.out] at k0
  have wd := (HE.out.one hlo HK.out).env.words 6 (by decide)
  have wd2 : y0.cell? ⟨1, 6, none⟩ = some (.string (bs [100, 105, 115, 116, 105, 110, 99, 116])) := wd
  have lwd := World.block_lt_of_cell? _ _ wd2
  clear wd
  go_wp2_with fail
  refine (must_yes (s := [100, 105, 115, 116, 105, 110, 99, 116]) (r := l.tail) (by unfold mustP; rw [if_pos HSE.out]) y0 HP.out).mono ?_
  rintro ev y1 ⟨rfl, hp, hk⟩
  have HJ' := Lib.hid (HJ.out.ps HP.out hk)
  have HK' := Lib.hid (HK.out.trans hk)
  clear HP HJ HK c0 z0 lb lg k0 k1 k2 hn2 jc1 lj wd2 lwd
  have HP := Lib.hid hp
  have HJ := HJ'
  have HK := HK'
  clear hp hk HJ' HK'
  have HR := HR1
  clear HR1
  have HLQ : Hid (l.tail.length ≤ l.length) := Lib.hid (by rw [List.length_tail]; omega)
  obtain ⟨r0, hr0⟩ : ∃ r0, l.tail = r0 := ⟨_, rfl⟩
  rw [hr0] at HP HR HLQ
  clear hr0 HSE HKD HCC
  have jc1 : y1.cell? ⟨jb, 1, none⟩ = some (.int .i64 6) := HJ.out.blk.cell 1
  have lj0 := HJ.out.blk.lt
  go_upto_region 13 with (fail)
  obtain ⟨A2, c2, hv, -⟩ := own_form HJ.out.o3
  subst hv
  have fS : y1.cell? ⟨jb, 3, none⟩ = some (.slice A2 (ins).length c2) ∧ y1.frozen? ⟨jb, 3, none⟩ = false := ⟨HJ.out.blk.cell 3, HJ.out.blk.frozen 3⟩
  have lj := HJ.out.blk.lt
  have hbd := Lib.hid (show (ins).length + 1 ≤ maxLen ∧ ((ins).length + 1) * 16 ≤ 140737488355328 by have := HL3.out; simp only [maxLen]; first | omega | (simp only [List.length_append, List.length_cons, List.length_nil]; omega))
  have HNE : Hid (jb ∉ [b]) := Lib.hid (by have := HJ.out.blk.ty.ne HP.out.ty (by decide); simpa using this)
  rcases hS : nameP r0 with x | ⟨a2, r2⟩
  ·have hr := HR.out
   rw [hS, err_bind] at hr
   have HX := Lib.hid hr.symm
   have HC : Hid (∀ W, Keeps [] y1 W → Calls Tryz.prog 78 #[.pointer (some ⟨b, 0, none⟩)] W fun e w' => Thrown x e w' ∧ Keeps [b] W w') := Lib.hid (fun W z => name_no hS W (HP.out.keep z))
   clear hr hS
   go_wp2_with fail
   go_region_law (first | (refine step_append_lies _ (by rfl) _ _ _ (by rfl) w0.heap.size 9 i0 _ 1 16 Tryz.underlying39 hi hz0 hz1 hz2 rfl (by decide) (.slice A2 (ins).length c2) (ins).length (strs (ins)) (by rfl) ((HJ.out.ps HP.out hk6.undrew).o3.alloc _) ⟨w6.heap.size, 0, none⟩ 1 1 [.string (bs [])] (by rfl) rfl (World.news_of_block (heap_alloc_new _ _)) (by simp [Value.oneCell']) (by decide) hbd.out.1 hbd.out.2 (by have := HK.out.size; have := hk6.size; have h9 : y1.drew.heap.size = y1.heap.size := rfl; simp; omega) _ rfl ?_; intro gw cap w7 hown7 hgrow7 hat7 hlt7; obtain ⟨fS7, fZ7⟩ := fld_grown hgrow7 (fld_alloc ⟨fS6, fZ6⟩ _) (fun e => (own_ty (HJ.out.ps HP.out hk6.undrew).o3 jb e).ne (HJ.out.ps HP.out hk6.undrew).blk.ty (by decide) rfl)) | (go_simp; go_at_call 78; refine (HC.out _ (Keeps.refl [] y1).drew).mono ?_; rintro e w6 ⟨⟨gi, rfl, hb⟩, hk6⟩; obtain ⟨fS6, fZ6⟩ := fld_keeps hk6 fS HNE.out; have gl6 : jb < w6.heap.size := World.block_lt_of_cell? w6 ⟨jb, 3, none⟩ fS6; dsimp only; (go_loud (refine fake_way ‹∀ (a : Act) (w : World), wpAny _ _ _ _ _ _ a w → _› (some 88) (.string (bs [])) ⟨rfl, by rw [HX.out]; exact ⟨gi, rfl, hb⟩, HK.out.trans hk6.undrew⟩ (fun hF => ?_)))))
   all_goals exact hF.out.elim
  have hr := HR.out
  rw [hS, ok_bind] at hr
  try dsimp only at hr
  clear HR
  have HR := Lib.hid hr
  clear hr
  have HC : Hid (∀ W, Keeps [] y1 W → Calls Tryz.prog 78 #[.pointer (some ⟨b, 0, none⟩)] W fun e w' => e = .returned (.string (bs a2)) ∧ Ps w' b r2 ∧ Keeps [b] W w') := Lib.hid (fun W z => name_yes hS W (HP.out.keep z))
  have HLR : Hid (r2.length ≤ l.length) := Lib.hid (by have := HLQ.out; have := nameP_len hS; omega)
  clear HLQ
  have HLQ := HLR
  clear HLR
  clear hS
  go_cut [] (fun wx => ∃ vz2, JbIs wx w0.heap.size jb (⟨at_, 6, outs, ins ++ [a2], cols, op, left, right, retry⟩ : Jb) v2 vz2 v4 ∧ Ps wx b r2 ∧ Keeps [b] w0 wx)
  case first =>
   go_region_law (first | (refine step_append_lies _ (by rfl) _ _ _ (by rfl) w0.heap.size 9 i0 _ 1 16 Tryz.underlying39 hi hz0 hz1 hz2 rfl (by decide) (.slice A2 (ins).length c2) (ins).length (strs (ins)) (by rfl) ((HJ.out.ps HP.out hk6.undrew).o3.alloc _) ⟨w6.heap.size, 0, none⟩ 1 1 [.string (bs a2)] (by rfl) rfl (World.news_of_block (heap_alloc_new _ _)) (by simp [Value.oneCell']) (by decide) hbd.out.1 hbd.out.2 (by have := HK.out.size; have := hk6.size; have h9 : y1.drew.heap.size = y1.heap.size := rfl; simp; omega) _ rfl ?_; intro gw cap w7 hown7 hgrow7 hat7 hlt7; obtain ⟨fS7, fZ7⟩ := fld_grown hgrow7 (fld_alloc ⟨fS6, fZ6⟩ _) (fun e => (own_ty (HJ.out.ps HP.out hk6.undrew).o3 jb e).ne (HJ.out.ps HP.out hk6.undrew).blk.ty (by decide) rfl)) | (go_simp; go_at_call 78; refine (HC.out _ (Keeps.refl [] y1).drew).mono ?_; rintro e w6 ⟨rfl, hp6, hk6⟩; obtain ⟨fS6, fZ6⟩ := fld_keeps hk6 fS HNE.out; have gl6 : jb < w6.heap.size := World.block_lt_of_cell? w6 ⟨jb, 3, none⟩ fS6))
   all_goals
    go_wp2
    go_meet
    have hh := JbIs.app3 (HJ.out.ps HP.out hk6.undrew) hp6 (HK.out.trans hk6.undrew) rfl HJB.out hgrow7 rfl hown7 hat7 (by simp)
    exact ⟨_, hh.1, hh.2.1, hh.2.2⟩
  case rest =>
   obtain ⟨vz2, hj, hp, hk⟩ := hcut
   obtain ⟨y2, rfl⟩ : ∃ y : World, y = wc := ⟨_, rfl⟩
   clear HP HJ HK HC fS lj hbd HNE
   have HP := Lib.hid hp
   have HJ := Lib.hid hj
   have HK := Lib.hid hk
   have HLN : Hid ((ins ++ [a2]).length ≤ 999000 + 2) := Lib.hid (by have := HL3.out; simp only [List.length_append, List.length_cons, List.length_nil]; omega)
   clear hp hj hk HL3
   generalize ins ++ [a2] = il2 at HJ HR HLN
   have HL3 := HLN
   clear HLN
   clear jc1 lj0
   have jc1 : y2.cell? ⟨jb, 1, none⟩ = some (.int .i64 6) := HJ.out.blk.cell 1
   have lj0 := HJ.out.blk.lt
   have hr := HR.out
   clear HR
   have HR : Hid ((.ok ((⟨at_, 6, outs, il2, cols, op, left, right, retry⟩ : Jb), r2) : Except (Int × Int) (Jb × List Tk)) = R) := Lib.hid hr
   clear hr
   have HX := Lib.hid HR.out.symm
   clear HR
   go_wp2
   first | go_end0 | refine bodyPost_ret (results_none rfl _ _ _) rfl ?_
   exact ⟨by rw [HX.out]; exact ⟨rfl, ⟨_, _, _, HJ.out⟩, HP.out⟩, HK.out⟩
end Go.Proofs.YtnjjajanfedjiaaGreatDoor
namespace Go.Proofs.YtnjjajanfedjiaaGreatDoor
open Go.RowKit Go.BigFrame
attribute [local go_sem] bs_size bs_extract bs_append bs_toList
set_option maxRecDepth 100000 in
set_option maxHeartbeats 8000000 in
theorem body_2 {l : List Tk} {b jb lo : Nat} {v2 v3 v4 : Value} (at_ code : Int) (outs ins cols : List Bs) (op : Bs) (left right : Ar) (retry : Int) (w0 w : World) (hE : FB w0 lo) (hlo : lo ≤ b) (h : Ps w b l) (hk : Keeps [b] w0 w) (hjb : w0.heap.size ≤ jb) (hj : JbIs w w0.heap.size jb ⟨at_, code, outs, ins, cols, op, left, right, retry⟩ v2 v3 v4) (hl3 : ins.length ≤ 1000) (hl4 : cols.length ≤ 1000) (hll : l.length ≤ 1000000) (hcc : wordIx (hdT l).text = 2) (hkd : (hdT l).kind = 1) :
  Calls Tryz.prog 117 #[.pointer (some ⟨b, 0, none⟩), .pointer (some ⟨jb, 0, none⟩)] w fun e w' => JbOut (bodyP ⟨at_, code, outs, ins, cols, op, left, right, retry⟩ l) b w0.heap.size jb e w' ∧ Keeps [b] w0 w' := by
 obtain ⟨i0, hi, hz0, hz1, hz2⟩ := info_parts sinf
 obtain ⟨R, hR⟩ : ∃ R, bodyP ⟨at_, code, outs, ins, cols, op, left, right, retry⟩ l = R := ⟨_, rfl⟩
 rw [hR]
 have HE := Lib.hid hE
 have HP := Lib.hid h
 have HK := Lib.hid hk
 have HJ := Lib.hid hj
 have HJB := Lib.hid hjb
 have HL3 : Hid (ins.length ≤ 999000) := Lib.hid (by omega)
 have HL4 : Hid (cols.length ≤ 999000) := Lib.hid (by omega)
 have HLL := Lib.hid hll
 have HIX : Hid (∀ W, Keeps [] w W → Calls Tryz.prog 90 #[.slice (some ⟨1, 0, none⟩) 10 10, .string (bs (hdT l).text)] W fun e W' => e = .returned (.int .i64 (wordQ (hdT l).text)) ∧ W = W') := Lib.hid (fun W q => index_words (hdT l).text W ((hE.one hlo hk).quiet q).env)
 obtain ⟨q, hq⟩ : ∃ q, wordQ (hdT l).text = q := ⟨_, rfl⟩
 rw [hq] at HIX
 have HQ := Lib.hid hq
 obtain ⟨g, o, c, c0, z0, lb, lg, -, hn, hc, hc2, k0, k1, k2, -⟩ := h.open'
 have hn2 : (0 : Int) < (l.length : Int) := by omega
 have f1 : w.cell? ⟨jb, 1, none⟩ = some (.int .i64 code) := hj.blk.cell 1
 have f2 := hj.blk.frozen 1
 have lj := hj.blk.lt
 have HCC := Lib.hid hcc
 have HR1 : Hid ((nameP l.tail >>= fun p => restP ⟨at_, 2, outs, ins ++ [p.1], cols, op, left, right, retry⟩ p.2) = R) := Lib.hid (by
  rw [← hR]
  unfold bodyP
  rw [hcc, if_neg (by rw [hkd]; decide)]
  rfl)
 have hse : seeP [115, 101, 116] l = true := by
  unfold seeP
  rw [hkd, wordIx_text hcc (by decide)]
  rfl
 have HSE := Lib.hid hse
 have HKD := Lib.hid hkd
 clear hR hE h hk hj hl3 hl4 hll hjb hq hcc hse hkd
 go_enter Tryz.func117, Tryz.ntmps117
 go_upto_region 0 with (fail)
 go_cut [] (fun wx => wx = (w.setCell ⟨jb, 1, none⟩ (.int .i64 (max q 0))).drew)
 case first =>
  go_region_law (first | (go_simp; go_at_call 90; refine (HIX.out _ (Keeps.refl [] w).drew).mono ?_; rintro e w6 ⟨rfl, rfl⟩))
  all_goals
   go_wp2
   go_meet
   exact rfl
 case rest =>
  subst hcut
  clear c0 z0 lb lg hn hc hc2 k0 k1 k2 hn2 lj f1 f2 HIX
  have hkb : Keeps [jb] w ((w.setCell ⟨jb, 1, none⟩ (.int .i64 (max q 0))).drew) := ((Keeps.refl _ _).setCell (.inl (by simp)) _).drew
  have hj' : JbIs ((w.setCell ⟨jb, 1, none⟩ (.int .i64 (max q 0))).drew) w0.heap.size jb ⟨at_, max q 0, outs, ins, cols, op, left, right, retry⟩ v2 v3 v4 := HJ.out.box hkb ((HJ.out.blk.set 1 (.int .i64 (max q 0))).congr (by rfl)) rfl rfl rfl
  have hp' := HP.out.box HJ.out hkb
  have hk' := HK.out.box HJB.out hkb
  have hm : max q 0 = 2 := by rw [← HQ.out, wordQ_max, HCC.out]; rfl
  rw [hm] at hj' hp' hk' ⊢
  clear hm hkb HJ HP HK
  obtain ⟨y0, hy⟩ : ∃ x, (w.setCell ⟨jb, 1, none⟩ (.int .i64 2)).drew = x := ⟨_, rfl⟩
  rw [hy] at hj' hp' hk' ⊢
  have HJ := Lib.hid hj'
  have HP := Lib.hid hp'
  have HK := Lib.hid hk'
  have jc1 : y0.cell? ⟨jb, 1, none⟩ = some (.int .i64 2) := hj'.blk.cell 1
  have lj := hj'.blk.lt
  obtain ⟨g, o, c, c0, z0, lb, lg, -, hn, hc, hc2, k0, k1, k2, -⟩ := hp'.open'
  have hn2 : (0 : Int) < (l.length : Int) := by omega
  clear hy hj' hp' hk' hn hc hc2 HQ
  rw [HKD.out] at k0
  have wd := (HE.out.one hlo HK.out).env.words 2 (by decide)
  have wd2 : y0.cell? ⟨1, 2, none⟩ = some (.string (bs [115, 101, 116])) := wd
  have lwd := World.block_lt_of_cell? _ _ wd2
  clear wd
  go_wp2_with fail
  refine (must_yes (s := [115, 101, 116]) (r := l.tail) (by unfold mustP; rw [if_pos HSE.out]) y0 HP.out).mono ?_
  rintro ev y1 ⟨rfl, hp, hk⟩
  have HJ' := Lib.hid (HJ.out.ps HP.out hk)
  have HK' := Lib.hid (HK.out.trans hk)
  clear HP HJ HK c0 z0 lb lg k0 k1 k2 hn2 jc1 lj wd2 lwd
  have HP := Lib.hid hp
  have HJ := HJ'
  have HK := HK'
  clear hp hk HJ' HK'
  have HR := HR1
  clear HR1
  have HLQ : Hid (l.tail.length ≤ l.length) := Lib.hid (by rw [List.length_tail]; omega)
  obtain ⟨r0, hr0⟩ : ∃ r0, l.tail = r0 := ⟨_, rfl⟩
  rw [hr0] at HP HR HLQ
  clear hr0 HSE HKD HCC
  have jc1 : y1.cell? ⟨jb, 1, none⟩ = some (.int .i64 2) := HJ.out.blk.cell 1
  have lj0 := HJ.out.blk.lt
  go_upto_region 13 with (fail)
  obtain ⟨A2, c2, hv, -⟩ := own_form HJ.out.o3
  subst hv
  have fS : y1.cell? ⟨jb, 3, none⟩ = some (.slice A2 (ins).length c2) ∧ y1.frozen? ⟨jb, 3, none⟩ = false := ⟨HJ.out.blk.cell 3, HJ.out.blk.frozen 3⟩
  have lj := HJ.out.blk.lt
  have hbd := Lib.hid (show (ins).length + 1 ≤ maxLen ∧ ((ins).length + 1) * 16 ≤ 140737488355328 by have := HL3.out; simp only [maxLen]; first | omega | (simp only [List.length_append, List.length_cons, List.length_nil]; omega))
  have HNE : Hid (jb ∉ [b]) := Lib.hid (by have := HJ.out.blk.ty.ne HP.out.ty (by decide); simpa using this)
  rcases hS : nameP r0 with x | ⟨a2, r2⟩
  ·have hr := HR.out
   rw [hS, err_bind] at hr
   have HX := Lib.hid hr.symm
   have HC : Hid (∀ W, Keeps [] y1 W → Calls Tryz.prog 78 #[.pointer (some ⟨b, 0, none⟩)] W fun e w' => Thrown x e w' ∧ Keeps [b] W w') := Lib.hid (fun W z => name_no hS W (HP.out.keep z))
   clear hr hS
   go_wp2_with fail
   go_region_law (first | (refine step_append_lies _ (by rfl) _ _ _ (by rfl) w0.heap.size 9 i0 _ 1 16 Tryz.underlying39 hi hz0 hz1 hz2 rfl (by decide) (.slice A2 (ins).length c2) (ins).length (strs (ins)) (by rfl) ((HJ.out.ps HP.out hk6.undrew).o3.alloc _) ⟨w6.heap.size, 0, none⟩ 1 1 [.string (bs [])] (by rfl) rfl (World.news_of_block (heap_alloc_new _ _)) (by simp [Value.oneCell']) (by decide) hbd.out.1 hbd.out.2 (by have := HK.out.size; have := hk6.size; have h9 : y1.drew.heap.size = y1.heap.size := rfl; simp; omega) _ rfl ?_; intro gw cap w7 hown7 hgrow7 hat7 hlt7; obtain ⟨fS7, fZ7⟩ := fld_grown hgrow7 (fld_alloc ⟨fS6, fZ6⟩ _) (fun e => (own_ty (HJ.out.ps HP.out hk6.undrew).o3 jb e).ne (HJ.out.ps HP.out hk6.undrew).blk.ty (by decide) rfl)) | (go_simp; go_at_call 78; refine (HC.out _ (Keeps.refl [] y1).drew).mono ?_; rintro e w6 ⟨⟨gi, rfl, hb⟩, hk6⟩; obtain ⟨fS6, fZ6⟩ := fld_keeps hk6 fS HNE.out; have gl6 : jb < w6.heap.size := World.block_lt_of_cell? w6 ⟨jb, 3, none⟩ fS6; dsimp only; (go_loud (refine fake_way ‹∀ (a : Act) (w : World), wpAny _ _ _ _ _ _ a w → _› (some 88) (.string (bs [])) ⟨rfl, by rw [HX.out]; exact ⟨gi, rfl, hb⟩, HK.out.trans hk6.undrew⟩ (fun hF => ?_)))))
   all_goals exact hF.out.elim
  have hr := HR.out
  rw [hS, ok_bind] at hr
  try dsimp only at hr
  clear HR
  have HR := Lib.hid hr
  clear hr
  have HC : Hid (∀ W, Keeps [] y1 W → Calls Tryz.prog 78 #[.pointer (some ⟨b, 0, none⟩)] W fun e w' => e = .returned (.string (bs a2)) ∧ Ps w' b r2 ∧ Keeps [b] W w') := Lib.hid (fun W z => name_yes hS W (HP.out.keep z))
  have HLR : Hid (r2.length ≤ l.length) := Lib.hid (by have := HLQ.out; have := nameP_len hS; omega)
  clear HLQ
  have HLQ := HLR
  clear HLR
  clear hS
  go_cut [] (fun wx => ∃ vz2, JbIs wx w0.heap.size jb (⟨at_, 2, outs, ins ++ [a2], cols, op, left, right, retry⟩ : Jb) v2 vz2 v4 ∧ Ps wx b r2 ∧ Keeps [b] w0 wx)
  case first =>
   go_region_law (first | (refine step_append_lies _ (by rfl) _ _ _ (by rfl) w0.heap.size 9 i0 _ 1 16 Tryz.underlying39 hi hz0 hz1 hz2 rfl (by decide) (.slice A2 (ins).length c2) (ins).length (strs (ins)) (by rfl) ((HJ.out.ps HP.out hk6.undrew).o3.alloc _) ⟨w6.heap.size, 0, none⟩ 1 1 [.string (bs a2)] (by rfl) rfl (World.news_of_block (heap_alloc_new _ _)) (by simp [Value.oneCell']) (by decide) hbd.out.1 hbd.out.2 (by have := HK.out.size; have := hk6.size; have h9 : y1.drew.heap.size = y1.heap.size := rfl; simp; omega) _ rfl ?_; intro gw cap w7 hown7 hgrow7 hat7 hlt7; obtain ⟨fS7, fZ7⟩ := fld_grown hgrow7 (fld_alloc ⟨fS6, fZ6⟩ _) (fun e => (own_ty (HJ.out.ps HP.out hk6.undrew).o3 jb e).ne (HJ.out.ps HP.out hk6.undrew).blk.ty (by decide) rfl)) | (go_simp; go_at_call 78; refine (HC.out _ (Keeps.refl [] y1).drew).mono ?_; rintro e w6 ⟨rfl, hp6, hk6⟩; obtain ⟨fS6, fZ6⟩ := fld_keeps hk6 fS HNE.out; have gl6 : jb < w6.heap.size := World.block_lt_of_cell? w6 ⟨jb, 3, none⟩ fS6))
   all_goals
    go_wp2
    go_meet
    have hh := JbIs.app3 (HJ.out.ps HP.out hk6.undrew) hp6 (HK.out.trans hk6.undrew) rfl HJB.out hgrow7 rfl hown7 hat7 (by simp)
    exact ⟨_, hh.1, hh.2.1, hh.2.2⟩
  case rest =>
   obtain ⟨vz2, hj, hp, hk⟩ := hcut
   obtain ⟨y2, rfl⟩ : ∃ y : World, y = wc := ⟨_, rfl⟩
   clear HP HJ HK HC fS lj hbd HNE
   have HP := Lib.hid hp
   have HJ := Lib.hid hj
   have HK := Lib.hid hk
   have HLN : Hid ((ins ++ [a2]).length ≤ 999000 + 2) := Lib.hid (by have := HL3.out; simp only [List.length_append, List.length_cons, List.length_nil]; omega)
   clear hp hj hk HL3
   generalize ins ++ [a2] = il2 at HJ HR HLN
   have HL3 := HLN
   clear HLN
   clear jc1 lj0
   have jc1 : y2.cell? ⟨jb, 1, none⟩ = some (.int .i64 2) := HJ.out.blk.cell 1
   have lj0 := HJ.out.blk.lt
   have hr := HR.out
   clear HR
   have HR : Hid (setP (⟨at_, 2, outs, il2, cols, op, left, right, retry⟩ : Jb) r2 = R) := Lib.hid hr
   clear hr
   have hr := HR.out
   unfold setP at hr
   clear HR
   have HR := Lib.hid hr
   clear hr
   rcases hS : mustP [58] r2 with x | r3
   ·have hr := HR.out
    rw [hS, err_bind] at hr
    have HX := Lib.hid hr.symm
    have HC := Lib.hid (must_no hS y2 HP.out)
    clear hr hS
    go_wp2_with fail
    refine HC.out.mono ?_
    rintro ev w9 ⟨⟨gi, rfl, hb⟩, hk9⟩
    exact ⟨rfl, by rw [HX.out]; exact ⟨gi, rfl, hb⟩, HK.out.trans hk9⟩
   have hr := HR.out
   rw [hS, ok_bind] at hr
   try dsimp only at hr
   clear HR
   have HR := Lib.hid hr
   clear hr
   have HC := Lib.hid (must_yes hS y2 HP.out)
   have HLR : Hid (r3.length ≤ l.length) := Lib.hid (by have := HLQ.out; have := mustP_len hS; omega)
   clear hS HLQ
   have HLQ := HLR
   clear HLR
   go_wp2_with fail
   refine HC.out.mono ?_
   rintro ev y3 ⟨rfl, hp, hk⟩
   have HJ' := Lib.hid (HJ.out.ps HP.out hk)
   have HK' := Lib.hid (HK.out.trans hk)
   clear HP HJ HK HC
   have HP := Lib.hid hp
   have HJ := HJ'
   have HK := HK'
   clear hp hk HJ' HK'
   clear jc1 lj0
   rcases hS : nameP r3 with x | ⟨a4, r4⟩
   ·have hr := HR.out
    rw [hS, err_bind] at hr
    have HX := Lib.hid hr.symm
    have HC := Lib.hid (name_no hS y3 HP.out)
    clear hr hS
    go_wp2_with fail
    refine HC.out.mono ?_
    rintro ev w9 ⟨⟨gi, rfl, hb⟩, hk9⟩
    exact ⟨rfl, by rw [HX.out]; exact ⟨gi, rfl, hb⟩, HK.out.trans hk9⟩
   have hr := HR.out
   rw [hS, ok_bind] at hr
   try dsimp only at hr
   clear HR
   have HR := Lib.hid hr
   clear hr
   have HC := Lib.hid (name_yes hS y3 HP.out)
   have HLR : Hid (r4.length ≤ l.length) := Lib.hid (by have := HLQ.out; have := nameP_len hS; omega)
   clear hS HLQ
   have HLQ := HLR
   clear HLR
   go_wp2_with fail
   refine HC.out.mono ?_
   rintro ev y4 ⟨rfl, hp, hk⟩
   have HJ' := Lib.hid (HJ.out.ps HP.out hk)
   have HK' := Lib.hid (HK.out.trans hk)
   clear HP HJ HK HC
   have HP := Lib.hid hp
   have HJ := HJ'
   have HK := HK'
   clear hp hk HJ' HK'
   have jf4 := HJ.out.blk.frozen 4
   have jc4 : y4.cell? ⟨jb, 4, none⟩ = some (v4) := HJ.out.blk.cell 4
   have lj := HJ.out.blk.lt
   have hov : (y4.alloc (.cells #[.string (bs a4)] 9)).ownsRow w0.heap.size 9 1 (.slice (some ⟨y4.heap.size, 0, none⟩) 1 1) [a4].length (strs [a4]) := own_lit (Blk.new y4 9 #[.string (bs a4)]) HK.out.size rfl (by decide)
   have hA2 : Apart (v2) (.slice (some ⟨y4.heap.size, 0, none⟩) 1 1) := Apart.new HJ.out.o2 (fun g hg => by simp [Value.ownBlock] at hg; omega)
   have hA3 : Apart (vz2) (.slice (some ⟨y4.heap.size, 0, none⟩) 1 1) := Apart.new HJ.out.o3 (fun g hg => by simp [Value.ownBlock] at hg; omega)
   have hal : Keeps [] y4 (y4.alloc (.cells #[.string (bs a4)] 9)) := (Keeps.refl _ _).alloc _
   have hkb : Keeps [jb] (y4.alloc (.cells #[.string (bs a4)] 9)) ((y4.alloc (.cells #[.string (bs a4)] 9)).setCell ⟨jb, 4, none⟩ (.slice (some ⟨y4.heap.size, 0, none⟩) 1 1)) := (Keeps.refl _ _).setCell (.inl (by simp)) _
   have hj' := (HJ.out.keep hal).put4 hov hA2 hA3
   have hp' := (HP.out.keep hal).box (HJ.out.keep hal) hkb
   have hk' := Keeps.box (HK.out.trans hal.of_nil) HJB.out hkb
   rw [World.setCell_alloc_past (w := y4) (.cells #[.string (bs a4)] 9) jb 4 (.slice (some ⟨y4.heap.size, 0, none⟩) 1 1) lj] at hj' hp' hk'
   have HJ' := Lib.hid hj'
   have HP' := Lib.hid hp'
   have HK' := Lib.hid hk'
   clear hov hA2 hA3 hal hkb hj' hp' hk'
   go_upto_region 21 with (fail)
   obtain ⟨y5, hy⟩ : ∃ x, ((y4.setCell ⟨jb, 4, none⟩ (.slice (some ⟨y4.heap.size, 0, none⟩) 1 1)).alloc (.cells #[.string (bs a4)] 9)) = x := ⟨_, rfl⟩
   rw [hy] at HJ' HP' HK' ⊢
   obtain ⟨hs5, hsz⟩ : ∃ n, y4.heap.size = n := ⟨_, rfl⟩
   rw [hsz] at HJ'
   try rw [hsz]
   clear hy hsz jf4 jc4 lj HJ HP HK
   have HJ := HJ'
   have HP := HP'
   have HK := HK'
   clear HJ' HP' HK'
   obtain ⟨vl5, hvl⟩ : ∃ v, Value.slice (some ⟨hs5, 0, none⟩) 1 1 = v := ⟨_, rfl⟩
   rw [hvl] at HJ
   clear hvl
   have HLN : Hid ([a4].length ≤ 999000) := Lib.hid (by simp)
   clear HL4
   generalize hcl : [a4] = cl5 at HJ HR HLN
   have HCL := Lib.hid hcl
   clear hcl
   have HL4 := HLN
   clear HLN
   rcases hS : mustP [61] r4 with x | r6
   ·have hr := HR.out
    rw [hS, err_bind] at hr
    have HX := Lib.hid hr.symm
    have HC := Lib.hid (must_no hS y5 HP.out)
    clear hr hS
    go_wp2_with fail
    refine HC.out.mono ?_
    rintro ev w9 ⟨⟨gi, rfl, hb⟩, hk9⟩
    exact ⟨rfl, by rw [HX.out]; exact ⟨gi, rfl, hb⟩, HK.out.trans hk9⟩
   have hr := HR.out
   rw [hS, ok_bind] at hr
   try dsimp only at hr
   clear HR
   have HR := Lib.hid hr
   clear hr
   have HC := Lib.hid (must_yes hS y5 HP.out)
   have HLR : Hid (r6.length ≤ l.length) := Lib.hid (by have := HLQ.out; have := mustP_len hS; omega)
   clear hS HLQ
   have HLQ := HLR
   clear HLR
   go_wp2_with fail
   refine HC.out.mono ?_
   rintro ev y6 ⟨rfl, hp, hk⟩
   have HJ' := Lib.hid (HJ.out.ps HP.out hk)
   have HK' := Lib.hid (HK.out.trans hk)
   clear HP HJ HK HC
   have HP := Lib.hid hp
   have HJ := HJ'
   have HK := HK'
   clear hp hk HJ' HK'
   have HC := Lib.hid (farg_any y6 (HE.out.one hlo HK.out) hlo HP.out)
   rcases hS : argP r6 with x | ⟨a7, r7⟩
   ·have hr := HR.out
    rw [hS, err_bind] at hr
    have HX := Lib.hid hr.symm
    have hc := HC.out
    rw [hS] at hc
    have HC2 := Lib.hid hc
    clear hr hS hc HC
    go_wp2_with fail
    refine HC2.out.mono ?_
    rintro ev w9 ⟨⟨gi, rfl, hb⟩, hk9⟩
    exact ⟨rfl, by rw [HX.out]; exact ⟨gi, rfl, hb⟩, HK.out.trans hk9⟩
   have hr := HR.out
   rw [hS, ok_bind] at hr
   try dsimp only at hr
   clear HR
   have HR := Lib.hid hr
   clear hr
   have hc := HC.out
   rw [hS] at hc
   clear HC
   have HC := Lib.hid hc
   have HLR : Hid (r7.length ≤ l.length) := Lib.hid (Nat.le_trans (argP_le hS) HLQ.out)
   clear hS hc HLQ
   have HLQ := HLR
   clear HLR
   go_wp2_with fail
   refine HC.out.mono ?_
   rintro ev y7 ⟨⟨he, hp⟩, hk⟩
   have he2 : ev = .returned (.agg #[.string (bs a7.col), .int .i64 a7.val.kind, .int .i64 a7.val.num, .string (bs a7.val.word)]) := he
   subst he2
   clear he
   have HJ' := Lib.hid (HJ.out.ps HP.out hk)
   have HK' := Lib.hid (HK.out.trans hk)
   clear HP HJ HK HC
   have HP := Lib.hid hp
   have HJ := HJ'
   have HK := HK'
   clear hp hk HJ' HK'
   have jf6 := HJ.out.blk.frozen 6
   have jc6 : y7.cell? ⟨jb, 6, none⟩ = some (.string (bs left.col)) := HJ.out.blk.cell 6
   have jf7 := HJ.out.blk.frozen 7
   have jc7 : y7.cell? ⟨jb, 7, none⟩ = some (.int .i64 left.val.kind) := HJ.out.blk.cell 7
   have jf8 := HJ.out.blk.frozen 8
   have jc8 : y7.cell? ⟨jb, 8, none⟩ = some (.int .i64 left.val.num) := HJ.out.blk.cell 8
   have jf9 := HJ.out.blk.frozen 9
   have jc9 : y7.cell? ⟨jb, 9, none⟩ = some (.string (bs left.val.word)) := HJ.out.blk.cell 9
   have lj := HJ.out.blk.lt
   have hkb : Keeps [jb] y7 ((((y7.setCell ⟨jb, 6, none⟩ (.string (bs a7.col))).setCell ⟨jb, 7, none⟩ (.int .i64 a7.val.kind)).setCell ⟨jb, 8, none⟩ (.int .i64 a7.val.num)).setCell ⟨jb, 9, none⟩ (.string (bs a7.val.word))) := ((((Keeps.refl _ _).setCell (.inl (by simp)) _).setCell (.inl (by simp)) _).setCell (.inl (by simp)) _).setCell (.inl (by simp)) _
   have HJ' : Hid (JbIs ((((y7.setCell ⟨jb, 6, none⟩ (.string (bs a7.col))).setCell ⟨jb, 7, none⟩ (.int .i64 a7.val.kind)).setCell ⟨jb, 8, none⟩ (.int .i64 a7.val.num)).setCell ⟨jb, 9, none⟩ (.string (bs a7.val.word))) w0.heap.size jb (⟨at_, 2, outs, il2, cl5, op, a7, right, retry⟩ : Jb) v2 vz2 vl5) := Lib.hid (HJ.out.box hkb (((((HJ.out.blk.set 6 (.string (bs a7.col))).set 7 (.int .i64 a7.val.kind)).set 8 (.int .i64 a7.val.num)).set 9 (.string (bs a7.val.word))).congr (by rfl)) rfl rfl rfl)
   have HP' := Lib.hid (HP.out.box HJ.out hkb)
   have HK' := Lib.hid (HK.out.box HJB.out hkb)
   clear hkb
   go_upto_region 23 with (fail)
   obtain ⟨y8, hy⟩ : ∃ x, ((((y7.setCell ⟨jb, 6, none⟩ (.string (bs a7.col))).setCell ⟨jb, 7, none⟩ (.int .i64 a7.val.kind)).setCell ⟨jb, 8, none⟩ (.int .i64 a7.val.num)).setCell ⟨jb, 9, none⟩ (.string (bs a7.val.word))) = x := ⟨_, rfl⟩
   rw [hy] at HJ' HP' HK' ⊢
   clear hy jf6 jc6 jf7 jc7 jf8 jc8 jf9 jc9 lj HJ HP HK
   have HJ := HJ'
   have HP := HP'
   have HK := HK'
   clear HJ' HP' HK'
   have HJ' := Lib.hid (HJ.out.keep ((Keeps.refl _ _).alloc (.cells #[.string (bs [43]), .string (bs [45]), .string (bs [42])] 9)))
   have HP' := Lib.hid (HP.out.keep ((Keeps.refl _ _).alloc (.cells #[.string (bs [43]), .string (bs [45]), .string (bs [42])] 9)))
   have HK' := Lib.hid (HK.out.alloc (.cells #[.string (bs [43]), .string (bs [45]), .string (bs [42])] 9))
   have HRD : Hid (Rd (y8.alloc (.cells #[.string (bs [43]), .string (bs [45]), .string (bs [42])] 9)) [b] 1 (some ⟨y8.heap.size, 0, none⟩) 3 (strs [[43], [45], [42]])) := Lib.hid (rd_lit [[43], [45], [42]] (Blk.new y8 9 #[.string (bs [43]), .string (bs [45]), .string (bs [42])]) (by have := HP.out.lt; omega))
   clear HJ HP HK
   have HJ := HJ'
   have HP := HP'
   have HK := HK'
   clear HJ' HP' HK'
   go_wp2_with fail
   rcases hS : oneP [[43], [45], [42]] r7 with x | ⟨a9, r9⟩
   ·have hr := HR.out
    rw [hS, err_bind] at hr
    have HX := Lib.hid hr.symm
    have HC := Lib.hid (one_no hS (some ⟨y8.heap.size, 0, none⟩) 3 _ HP.out HRD.out (by decide))
    clear hr hS
    skip
    refine HC.out.mono ?_
    rintro ev w9 ⟨⟨gi, rfl, hb⟩, hk9⟩
    exact ⟨rfl, by rw [HX.out]; exact ⟨gi, rfl, hb⟩, HK.out.trans hk9⟩
   have hr := HR.out
   rw [hS, ok_bind] at hr
   try dsimp only at hr
   clear HR
   have HR := Lib.hid hr
   clear hr
   have HC := Lib.hid (one_yes hS (some ⟨y8.heap.size, 0, none⟩) 3 _ HP.out HRD.out (by decide))
   have HLR : Hid (r9.length ≤ l.length) := Lib.hid (by have := HLQ.out; have := oneP_len hS; omega)
   clear hS HRD HLQ
   have HLQ := HLR
   clear HLR
   refine HC.out.mono ?_
   rintro ev y9 ⟨rfl, hp, hk⟩
   have HJ' := Lib.hid (HJ.out.ps HP.out hk)
   have HK' := Lib.hid (HK.out.trans hk)
   clear HP HJ HK HC
   have HP := Lib.hid hp
   have HJ := HJ'
   have HK := HK'
   clear hp hk HJ' HK'
   have jf5 := HJ.out.blk.frozen 5
   have jc5 : y9.cell? ⟨jb, 5, none⟩ = some (.string (bs op)) := HJ.out.blk.cell 5
   have lj := HJ.out.blk.lt
   have hkb : Keeps [jb] y9 (y9.setCell ⟨jb, 5, none⟩ (.string (bs a9))) := (Keeps.refl _ _).setCell (.inl (by simp)) _
   have HJ' : Hid (JbIs (y9.setCell ⟨jb, 5, none⟩ (.string (bs a9))) w0.heap.size jb (⟨at_, 2, outs, il2, cl5, a9, a7, right, retry⟩ : Jb) v2 vz2 vl5) := Lib.hid (HJ.out.box hkb ((HJ.out.blk.set 5 (.string (bs a9))).congr (by rfl)) rfl rfl rfl)
   have HP' := Lib.hid (HP.out.box HJ.out hkb)
   have HK' := Lib.hid (HK.out.box HJB.out hkb)
   clear hkb
   go_upto_region 24 with (fail)
   obtain ⟨y10, hy⟩ : ∃ x, (y9.setCell ⟨jb, 5, none⟩ (.string (bs a9))) = x := ⟨_, rfl⟩
   rw [hy] at HJ' HP' HK' ⊢
   clear hy jf5 jc5 lj HJ HP HK
   have HJ := HJ'
   have HP := HP'
   have HK := HK'
   clear HJ' HP' HK'
   have HC := Lib.hid (farg_any y10 (HE.out.one hlo HK.out) hlo HP.out)
   rcases hS : argP r9 with x | ⟨a11, r11⟩
   ·have hr := HR.out
    rw [hS, err_bind] at hr
    have HX := Lib.hid hr.symm
    have hc := HC.out
    rw [hS] at hc
    have HC2 := Lib.hid hc
    clear hr hS hc HC
    go_wp2_with fail
    refine HC2.out.mono ?_
    rintro ev w9 ⟨⟨gi, rfl, hb⟩, hk9⟩
    exact ⟨rfl, by rw [HX.out]; exact ⟨gi, rfl, hb⟩, HK.out.trans hk9⟩
   have hr := HR.out
   rw [hS, ok_bind] at hr
   try dsimp only at hr
   clear HR
   have HR := Lib.hid hr
   clear hr
   have hc := HC.out
   rw [hS] at hc
   clear HC
   have HC := Lib.hid hc
   have HLR : Hid (r11.length ≤ l.length) := Lib.hid (Nat.le_trans (argP_le hS) HLQ.out)
   clear hS hc HLQ
   have HLQ := HLR
   clear HLR
   go_wp2_with fail
   refine HC.out.mono ?_
   rintro ev y11 ⟨⟨he, hp⟩, hk⟩
   have he2 : ev = .returned (.agg #[.string (bs a11.col), .int .i64 a11.val.kind, .int .i64 a11.val.num, .string (bs a11.val.word)]) := he
   subst he2
   clear he
   have HJ' := Lib.hid (HJ.out.ps HP.out hk)
   have HK' := Lib.hid (HK.out.trans hk)
   clear HP HJ HK HC
   have HP := Lib.hid hp
   have HJ := HJ'
   have HK := HK'
   clear hp hk HJ' HK'
   have jf10 := HJ.out.blk.frozen 10
   have jc10 : y11.cell? ⟨jb, 10, none⟩ = some (.string (bs right.col)) := HJ.out.blk.cell 10
   have jf11 := HJ.out.blk.frozen 11
   have jc11 : y11.cell? ⟨jb, 11, none⟩ = some (.int .i64 right.val.kind) := HJ.out.blk.cell 11
   have jf12 := HJ.out.blk.frozen 12
   have jc12 : y11.cell? ⟨jb, 12, none⟩ = some (.int .i64 right.val.num) := HJ.out.blk.cell 12
   have jf13 := HJ.out.blk.frozen 13
   have jc13 : y11.cell? ⟨jb, 13, none⟩ = some (.string (bs right.val.word)) := HJ.out.blk.cell 13
   have lj := HJ.out.blk.lt
   have hkb : Keeps [jb] y11 ((((y11.setCell ⟨jb, 10, none⟩ (.string (bs a11.col))).setCell ⟨jb, 11, none⟩ (.int .i64 a11.val.kind)).setCell ⟨jb, 12, none⟩ (.int .i64 a11.val.num)).setCell ⟨jb, 13, none⟩ (.string (bs a11.val.word))) := ((((Keeps.refl _ _).setCell (.inl (by simp)) _).setCell (.inl (by simp)) _).setCell (.inl (by simp)) _).setCell (.inl (by simp)) _
   have HJ' : Hid (JbIs ((((y11.setCell ⟨jb, 10, none⟩ (.string (bs a11.col))).setCell ⟨jb, 11, none⟩ (.int .i64 a11.val.kind)).setCell ⟨jb, 12, none⟩ (.int .i64 a11.val.num)).setCell ⟨jb, 13, none⟩ (.string (bs a11.val.word))) w0.heap.size jb (⟨at_, 2, outs, il2, cl5, a9, a7, a11, retry⟩ : Jb) v2 vz2 vl5) := Lib.hid (HJ.out.box hkb (((((HJ.out.blk.set 10 (.string (bs a11.col))).set 11 (.int .i64 a11.val.kind)).set 12 (.int .i64 a11.val.num)).set 13 (.string (bs a11.val.word))).congr (by rfl)) rfl rfl rfl)
   have HP' := Lib.hid (HP.out.box HJ.out hkb)
   have HK' := Lib.hid (HK.out.box HJB.out hkb)
   clear hkb
   have HX := Lib.hid HR.out.symm
   clear HR
   go_wp2
   first | go_end0 | refine bodyPost_ret (results_none rfl _ _ _) rfl ?_
   exact ⟨by rw [HX.out]; exact ⟨rfl, ⟨_, _, _, HJ'.out⟩, HP'.out⟩, HK'.out⟩
end Go.Proofs.YtnjjajanfedjiaaGreatDoor
namespace Go.Proofs.YtnjjajanfedjiaaGreatDoor
open Go.RowKit Go.BigFrame
attribute [local go_sem] bs_size bs_extract bs_append bs_toList
set_option maxRecDepth 100000 in
set_option maxHeartbeats 8000000 in
theorem body_3 {l : List Tk} {b jb lo : Nat} {v2 v3 v4 : Value} (at_ code : Int) (outs ins cols : List Bs) (op : Bs) (left right : Ar) (retry : Int) (w0 w : World) (hE : FB w0 lo) (hlo : lo ≤ b) (h : Ps w b l) (hk : Keeps [b] w0 w) (hjb : w0.heap.size ≤ jb) (hj : JbIs w w0.heap.size jb ⟨at_, code, outs, ins, cols, op, left, right, retry⟩ v2 v3 v4) (hl3 : ins.length ≤ 1000) (hl4 : cols.length ≤ 1000) (hll : l.length ≤ 1000000) (hcc : wordIx (hdT l).text = 3) (hkd : (hdT l).kind = 1) :
  Calls Tryz.prog 117 #[.pointer (some ⟨b, 0, none⟩), .pointer (some ⟨jb, 0, none⟩)] w fun e w' => JbOut (bodyP ⟨at_, code, outs, ins, cols, op, left, right, retry⟩ l) b w0.heap.size jb e w' ∧ Keeps [b] w0 w' := by
 obtain ⟨i0, hi, hz0, hz1, hz2⟩ := info_parts sinf
 obtain ⟨R, hR⟩ : ∃ R, bodyP ⟨at_, code, outs, ins, cols, op, left, right, retry⟩ l = R := ⟨_, rfl⟩
 rw [hR]
 have HE := Lib.hid hE
 have HP := Lib.hid h
 have HK := Lib.hid hk
 have HJ := Lib.hid hj
 have HJB := Lib.hid hjb
 have HL3 : Hid (ins.length ≤ 999000) := Lib.hid (by omega)
 have HL4 : Hid (cols.length ≤ 999000) := Lib.hid (by omega)
 have HLL := Lib.hid hll
 have HIX : Hid (∀ W, Keeps [] w W → Calls Tryz.prog 90 #[.slice (some ⟨1, 0, none⟩) 10 10, .string (bs (hdT l).text)] W fun e W' => e = .returned (.int .i64 (wordQ (hdT l).text)) ∧ W = W') := Lib.hid (fun W q => index_words (hdT l).text W ((hE.one hlo hk).quiet q).env)
 obtain ⟨q, hq⟩ : ∃ q, wordQ (hdT l).text = q := ⟨_, rfl⟩
 rw [hq] at HIX
 have HQ := Lib.hid hq
 obtain ⟨g, o, c, c0, z0, lb, lg, -, hn, hc, hc2, k0, k1, k2, -⟩ := h.open'
 have hn2 : (0 : Int) < (l.length : Int) := by omega
 have f1 : w.cell? ⟨jb, 1, none⟩ = some (.int .i64 code) := hj.blk.cell 1
 have f2 := hj.blk.frozen 1
 have lj := hj.blk.lt
 have HCC := Lib.hid hcc
 have HR1 : Hid ((nameP l.tail >>= fun p => restP ⟨at_, 3, outs, ins ++ [p.1], cols, op, left, right, retry⟩ p.2) = R) := Lib.hid (by
  rw [← hR]
  unfold bodyP
  rw [hcc, if_neg (by rw [hkd]; decide)]
  rfl)
 have hse : seeP [112, 114, 111, 106, 101, 99, 116] l = true := by
  unfold seeP
  rw [hkd, wordIx_text hcc (by decide)]
  rfl
 have HSE := Lib.hid hse
 have HKD := Lib.hid hkd
 clear hR hE h hk hj hl3 hl4 hll hjb hq hcc hse hkd
 go_enter Tryz.func117, Tryz.ntmps117
 go_upto_region 0 with (fail)
 go_cut [] (fun wx => wx = (w.setCell ⟨jb, 1, none⟩ (.int .i64 (max q 0))).drew)
 case first =>
  go_region_law (first | (go_simp; go_at_call 90; refine (HIX.out _ (Keeps.refl [] w).drew).mono ?_; rintro e w6 ⟨rfl, rfl⟩))
  all_goals
   go_wp2
   go_meet
   exact rfl
 case rest =>
  subst hcut
  clear c0 z0 lb lg hn hc hc2 k0 k1 k2 hn2 lj f1 f2 HIX
  have hkb : Keeps [jb] w ((w.setCell ⟨jb, 1, none⟩ (.int .i64 (max q 0))).drew) := ((Keeps.refl _ _).setCell (.inl (by simp)) _).drew
  have hj' : JbIs ((w.setCell ⟨jb, 1, none⟩ (.int .i64 (max q 0))).drew) w0.heap.size jb ⟨at_, max q 0, outs, ins, cols, op, left, right, retry⟩ v2 v3 v4 := HJ.out.box hkb ((HJ.out.blk.set 1 (.int .i64 (max q 0))).congr (by rfl)) rfl rfl rfl
  have hp' := HP.out.box HJ.out hkb
  have hk' := HK.out.box HJB.out hkb
  have hm : max q 0 = 3 := by rw [← HQ.out, wordQ_max, HCC.out]; rfl
  rw [hm] at hj' hp' hk' ⊢
  clear hm hkb HJ HP HK
  obtain ⟨y0, hy⟩ : ∃ x, (w.setCell ⟨jb, 1, none⟩ (.int .i64 3)).drew = x := ⟨_, rfl⟩
  rw [hy] at hj' hp' hk' ⊢
  have HJ := Lib.hid hj'
  have HP := Lib.hid hp'
  have HK := Lib.hid hk'
  have jc1 : y0.cell? ⟨jb, 1, none⟩ = some (.int .i64 3) := hj'.blk.cell 1
  have lj := hj'.blk.lt
  obtain ⟨g, o, c, c0, z0, lb, lg, -, hn, hc, hc2, k0, k1, k2, -⟩ := hp'.open'
  have hn2 : (0 : Int) < (l.length : Int) := by omega
  clear hy hj' hp' hk' hn hc hc2 HQ
  rw [HKD.out] at k0
  have wd := (HE.out.one hlo HK.out).env.words 3 (by decide)
  have wd2 : y0.cell? ⟨1, 3, none⟩ = some (.string (bs [112, 114, 111, 106, 101, 99, 116])) := wd
  have lwd := World.block_lt_of_cell? _ _ wd2
  clear wd
  go_wp2_with fail
  refine (must_yes (s := [112, 114, 111, 106, 101, 99, 116]) (r := l.tail) (by unfold mustP; rw [if_pos HSE.out]) y0 HP.out).mono ?_
  rintro ev y1 ⟨rfl, hp, hk⟩
  have HJ' := Lib.hid (HJ.out.ps HP.out hk)
  have HK' := Lib.hid (HK.out.trans hk)
  clear HP HJ HK c0 z0 lb lg k0 k1 k2 hn2 jc1 lj wd2 lwd
  have HP := Lib.hid hp
  have HJ := HJ'
  have HK := HK'
  clear hp hk HJ' HK'
  have HR := HR1
  clear HR1
  have HLQ : Hid (l.tail.length ≤ l.length) := Lib.hid (by rw [List.length_tail]; omega)
  obtain ⟨r0, hr0⟩ : ∃ r0, l.tail = r0 := ⟨_, rfl⟩
  rw [hr0] at HP HR HLQ
  clear hr0 HSE HKD HCC
  have jc1 : y1.cell? ⟨jb, 1, none⟩ = some (.int .i64 3) := HJ.out.blk.cell 1
  have lj0 := HJ.out.blk.lt
  go_upto_region 13 with (fail)
  obtain ⟨A2, c2, hv, -⟩ := own_form HJ.out.o3
  subst hv
  have fS : y1.cell? ⟨jb, 3, none⟩ = some (.slice A2 (ins).length c2) ∧ y1.frozen? ⟨jb, 3, none⟩ = false := ⟨HJ.out.blk.cell 3, HJ.out.blk.frozen 3⟩
  have lj := HJ.out.blk.lt
  have hbd := Lib.hid (show (ins).length + 1 ≤ maxLen ∧ ((ins).length + 1) * 16 ≤ 140737488355328 by have := HL3.out; simp only [maxLen]; first | omega | (simp only [List.length_append, List.length_cons, List.length_nil]; omega))
  have HNE : Hid (jb ∉ [b]) := Lib.hid (by have := HJ.out.blk.ty.ne HP.out.ty (by decide); simpa using this)
  rcases hS : nameP r0 with x | ⟨a2, r2⟩
  ·have hr := HR.out
   rw [hS, err_bind] at hr
   have HX := Lib.hid hr.symm
   have HC : Hid (∀ W, Keeps [] y1 W → Calls Tryz.prog 78 #[.pointer (some ⟨b, 0, none⟩)] W fun e w' => Thrown x e w' ∧ Keeps [b] W w') := Lib.hid (fun W z => name_no hS W (HP.out.keep z))
   clear hr hS
   go_wp2_with fail
   go_region_law (first | (refine step_append_lies _ (by rfl) _ _ _ (by rfl) w0.heap.size 9 i0 _ 1 16 Tryz.underlying39 hi hz0 hz1 hz2 rfl (by decide) (.slice A2 (ins).length c2) (ins).length (strs (ins)) (by rfl) ((HJ.out.ps HP.out hk6.undrew).o3.alloc _) ⟨w6.heap.size, 0, none⟩ 1 1 [.string (bs [])] (by rfl) rfl (World.news_of_block (heap_alloc_new _ _)) (by simp [Value.oneCell']) (by decide) hbd.out.1 hbd.out.2 (by have := HK.out.size; have := hk6.size; have h9 : y1.drew.heap.size = y1.heap.size := rfl; simp; omega) _ rfl ?_; intro gw cap w7 hown7 hgrow7 hat7 hlt7; obtain ⟨fS7, fZ7⟩ := fld_grown hgrow7 (fld_alloc ⟨fS6, fZ6⟩ _) (fun e => (own_ty (HJ.out.ps HP.out hk6.undrew).o3 jb e).ne (HJ.out.ps HP.out hk6.undrew).blk.ty (by decide) rfl)) | (go_simp; go_at_call 78; refine (HC.out _ (Keeps.refl [] y1).drew).mono ?_; rintro e w6 ⟨⟨gi, rfl, hb⟩, hk6⟩; obtain ⟨fS6, fZ6⟩ := fld_keeps hk6 fS HNE.out; have gl6 : jb < w6.heap.size := World.block_lt_of_cell? w6 ⟨jb, 3, none⟩ fS6; dsimp only; (go_loud (refine fake_way ‹∀ (a : Act) (w : World), wpAny _ _ _ _ _ _ a w → _› (some 88) (.string (bs [])) ⟨rfl, by rw [HX.out]; exact ⟨gi, rfl, hb⟩, HK.out.trans hk6.undrew⟩ (fun hF => ?_)))))
   all_goals exact hF.out.elim
  have hr := HR.out
  rw [hS, ok_bind] at hr
  try dsimp only at hr
  clear HR
  have HR := Lib.hid hr
  clear hr
  have HC : Hid (∀ W, Keeps [] y1 W → Calls Tryz.prog 78 #[.pointer (some ⟨b, 0, none⟩)] W fun e w' => e = .returned (.string (bs a2)) ∧ Ps w' b r2 ∧ Keeps [b] W w') := Lib.hid (fun W z => name_yes hS W (HP.out.keep z))
  have HLR : Hid (r2.length ≤ l.length) := Lib.hid (by have := HLQ.out; have := nameP_len hS; omega)
  clear HLQ
  have HLQ := HLR
  clear HLR
  clear hS
  go_cut [] (fun wx => ∃ vz2, JbIs wx w0.heap.size jb (⟨at_, 3, outs, ins ++ [a2], cols, op, left, right, retry⟩ : Jb) v2 vz2 v4 ∧ Ps wx b r2 ∧ Keeps [b] w0 wx)
  case first =>
   go_region_law (first | (refine step_append_lies _ (by rfl) _ _ _ (by rfl) w0.heap.size 9 i0 _ 1 16 Tryz.underlying39 hi hz0 hz1 hz2 rfl (by decide) (.slice A2 (ins).length c2) (ins).length (strs (ins)) (by rfl) ((HJ.out.ps HP.out hk6.undrew).o3.alloc _) ⟨w6.heap.size, 0, none⟩ 1 1 [.string (bs a2)] (by rfl) rfl (World.news_of_block (heap_alloc_new _ _)) (by simp [Value.oneCell']) (by decide) hbd.out.1 hbd.out.2 (by have := HK.out.size; have := hk6.size; have h9 : y1.drew.heap.size = y1.heap.size := rfl; simp; omega) _ rfl ?_; intro gw cap w7 hown7 hgrow7 hat7 hlt7; obtain ⟨fS7, fZ7⟩ := fld_grown hgrow7 (fld_alloc ⟨fS6, fZ6⟩ _) (fun e => (own_ty (HJ.out.ps HP.out hk6.undrew).o3 jb e).ne (HJ.out.ps HP.out hk6.undrew).blk.ty (by decide) rfl)) | (go_simp; go_at_call 78; refine (HC.out _ (Keeps.refl [] y1).drew).mono ?_; rintro e w6 ⟨rfl, hp6, hk6⟩; obtain ⟨fS6, fZ6⟩ := fld_keeps hk6 fS HNE.out; have gl6 : jb < w6.heap.size := World.block_lt_of_cell? w6 ⟨jb, 3, none⟩ fS6))
   all_goals
    go_wp2
    go_meet
    have hh := JbIs.app3 (HJ.out.ps HP.out hk6.undrew) hp6 (HK.out.trans hk6.undrew) rfl HJB.out hgrow7 rfl hown7 hat7 (by simp)
    exact ⟨_, hh.1, hh.2.1, hh.2.2⟩
  case rest =>
   obtain ⟨vz2, hj, hp, hk⟩ := hcut
   obtain ⟨y2, rfl⟩ : ∃ y : World, y = wc := ⟨_, rfl⟩
   clear HP HJ HK HC fS lj hbd HNE
   have HP := Lib.hid hp
   have HJ := Lib.hid hj
   have HK := Lib.hid hk
   have HLN : Hid ((ins ++ [a2]).length ≤ 999000 + 2) := Lib.hid (by have := HL3.out; simp only [List.length_append, List.length_cons, List.length_nil]; omega)
   clear hp hj hk HL3
   generalize ins ++ [a2] = il2 at HJ HR HLN
   have HL3 := HLN
   clear HLN
   clear jc1 lj0
   have jc1 : y2.cell? ⟨jb, 1, none⟩ = some (.int .i64 3) := HJ.out.blk.cell 1
   have lj0 := HJ.out.blk.lt
   have hr := HR.out
   clear HR
   have HR : Hid (byP (⟨at_, 3, outs, il2, cols, op, left, right, retry⟩ : Jb) r2 = R) := Lib.hid hr
   clear hr
   have hr := HR.out
   unfold byP at hr
   clear HR
   have HR := Lib.hid hr
   clear hr
   rcases hS : mustP [98, 121] r2 with x | r3
   ·have hr := HR.out
    rw [hS, err_bind] at hr
    have HX := Lib.hid hr.symm
    have HC := Lib.hid (must_no hS y2 HP.out)
    clear hr hS
    go_wp2_with fail
    refine HC.out.mono ?_
    rintro ev w9 ⟨⟨gi, rfl, hb⟩, hk9⟩
    exact ⟨rfl, by rw [HX.out]; exact ⟨gi, rfl, hb⟩, HK.out.trans hk9⟩
   have hr := HR.out
   rw [hS, ok_bind] at hr
   try dsimp only at hr
   clear HR
   have HR := Lib.hid hr
   clear hr
   have HC := Lib.hid (must_yes hS y2 HP.out)
   have HLR : Hid (r3.length ≤ l.length) := Lib.hid (by have := HLQ.out; have := mustP_len hS; omega)
   clear hS HLQ
   have HLQ := HLR
   clear HLR
   go_wp2_with fail
   refine HC.out.mono ?_
   rintro ev y3 ⟨rfl, hp, hk⟩
   have HJ' := Lib.hid (HJ.out.ps HP.out hk)
   have HK' := Lib.hid (HK.out.trans hk)
   clear HP HJ HK HC
   have HP := Lib.hid hp
   have HJ := HJ'
   have HK := HK'
   clear hp hk HJ' HK'
   clear jc1 lj0
   have hc := names_any y3 HP.out (Nat.le_trans HLQ.out HLL.out)
   rcases hS : namesP r3 with x | ⟨a4, r4⟩
   ·have hr := HR.out
    rw [hS, err_bind] at hr
    have HX := Lib.hid hr.symm
    rw [hS] at hc
    have HC2 := Lib.hid hc
    clear hr hS hc
    go_wp2_with fail
    refine HC2.out.mono ?_
    rintro ev w9 ⟨⟨gi, rfl, hb⟩, hk9⟩
    exact ⟨rfl, by rw [HX.out]; exact ⟨gi, rfl, hb⟩, HK.out.trans hk9⟩
   have hr := HR.out
   rw [hS, ok_bind] at hr
   try dsimp only at hr
   clear HR
   have HR := Lib.hid hr
   clear hr
   rw [hS] at hc
   have HC := Lib.hid hc
   clear hS hc
   go_wp2_with fail
   refine HC.out.mono ?_
   rintro ev y4 ⟨⟨v4, rfl, hov, hp⟩, hk⟩
   obtain ⟨A4, c4, hv, -⟩ := own_form hov
   subst hv
   have HOV := Lib.hid hov
   have HA2 : Hid (Apart v2 (.slice A4 a4.length c4)) := Lib.hid (Apart.new HJ.out.o2 (fun g hg => (hov.lt g hg).1))
   have HA3 : Hid (Apart vz2 (.slice A4 a4.length c4)) := Lib.hid (Apart.new HJ.out.o3 (fun g hg => (hov.lt g hg).1))
   have HWG := Lib.hid HK.out.size
   clear hov
   have HJ' := Lib.hid (HJ.out.ps HP.out hk)
   have HK' := Lib.hid (HK.out.trans hk)
   clear HP HJ HK HC
   have HP := Lib.hid hp
   have HJ := HJ'
   have HK := HK'
   clear hp hk HJ' HK'
   have jf4 := HJ.out.blk.frozen 4
   have jc4 : y4.cell? ⟨jb, 4, none⟩ = some (v4) := HJ.out.blk.cell 4
   have lj := HJ.out.blk.lt
   have hkb : Keeps [jb] y4 (y4.setCell ⟨jb, 4, none⟩ (.slice A4 a4.length c4)) := (Keeps.refl _ _).setCell (.inl (by simp)) _
   have HJ' := Lib.hid (HJ.out.put4 (own_low HOV.out HWG.out) HA2.out HA3.out)
   have HP' := Lib.hid (HP.out.box HJ.out hkb)
   have HK' := Lib.hid (HK.out.box HJB.out hkb)
   clear hkb
   have HX := Lib.hid HR.out.symm
   clear HR
   go_wp2
   first | go_end0 | refine bodyPost_ret (results_none rfl _ _ _) rfl ?_
   exact ⟨by rw [HX.out]; exact ⟨rfl, ⟨_, _, _, HJ'.out⟩, HP'.out⟩, HK'.out⟩
end Go.Proofs.YtnjjajanfedjiaaGreatDoor
