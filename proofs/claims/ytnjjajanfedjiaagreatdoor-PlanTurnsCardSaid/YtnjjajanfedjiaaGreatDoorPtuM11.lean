/- The parser's body at its codes. The parser's body at its codes. The parser's body. -/
import Derived.Test.YtnjjajanfedjiaaGreatDoorPtuM9
import Derived.Test.YtnjjajanfedjiaaGreatDoorPtuM10
set_option linter.unusedSimpArgs false
set_option linter.unusedVariables false
namespace Go.Proofs.YtnjjajanfedjiaaGreatDoor
open Go.RowKit Go.BigFrame
attribute [local go_sem] bs_size bs_extract bs_append bs_toList
set_option maxRecDepth 100000 in
set_option maxHeartbeats 8000000 in
theorem body_4 {l : List Tk} {b jb lo : Nat} {v2 v3 v4 : Value} (at_ code : Int) (outs ins cols : List Bs) (op : Bs) (left right : Ar) (retry : Int) (w0 w : World) (hE : FB w0 lo) (hlo : lo ≤ b) (h : Ps w b l) (hk : Keeps [b] w0 w) (hjb : w0.heap.size ≤ jb) (hj : JbIs w w0.heap.size jb ⟨at_, code, outs, ins, cols, op, left, right, retry⟩ v2 v3 v4) (hl3 : ins.length ≤ 1000) (hl4 : cols.length ≤ 1000) (hll : l.length ≤ 1000000) (hcc : wordIx (hdT l).text = 4) (hkd : (hdT l).kind = 1) :
  Calls Tryz.prog 117 #[.pointer (some ⟨b, 0, none⟩), .pointer (some ⟨jb, 0, none⟩)] w fun e w' => JbOut (bodyP ⟨at_, code, outs, ins, cols, op, left, right, retry⟩ l) b w0.heap.size jb e w' ∧ Keeps [b] w0 w' := by
 obtain ⟨i0, hi, hz0, hz1, hz2⟩ := info_parts sinf
 obtain ⟨R, hR⟩ : ∃ R, bodyP ⟨at_, code, outs, ins, cols, op, left, right, retry⟩ l = R := ⟨_, rfl⟩
 rw [hR]
 have HE := Lib.hid hE
 have HP := Lib.hid h
 have HK := Lib.hid hk
 have HJ := Lib.hid hj
 have HJB := Lib.hid hjb
 have HL3 : Hid (ins.length ≤ 999000) := Lib.hid (by omega)
 have HL4 : Hid (cols.length ≤ 999000) := Lib.hid (by omega)
 have HLL := Lib.hid hll
 have HIX : Hid (∀ W, Keeps [] w W → Calls Tryz.prog 90 #[.slice (some ⟨1, 0, none⟩) 10 10, .string (bs (hdT l).text)] W fun e W' => e = .returned (.int .i64 (wordQ (hdT l).text)) ∧ W = W') := Lib.hid (fun W q => index_words (hdT l).text W ((hE.one hlo hk).quiet q).env)
 obtain ⟨q, hq⟩ : ∃ q, wordQ (hdT l).text = q := ⟨_, rfl⟩
 rw [hq] at HIX
 have HQ := Lib.hid hq
 obtain ⟨g, o, c, c0, z0, lb, lg, -, hn, hc, hc2, k0, k1, k2, -⟩ := h.open'
 have hn2 : (0 : Int) < (l.length : Int) := by omega
 have f1 : w.cell? ⟨jb, 1, none⟩ = some (.int .i64 code) := hj.blk.cell 1
 have f2 := hj.blk.frozen 1
 have lj := hj.blk.lt
 have HCC := Lib.hid hcc
 have HR1 : Hid ((nameP l.tail >>= fun p => restP ⟨at_, 4, outs, ins ++ [p.1], cols, op, left, right, retry⟩ p.2) = R) := Lib.hid (by
  rw [← hR]
  unfold bodyP
  rw [hcc, if_neg (by rw [hkd]; decide)]
  rfl)
 have hse : seeP [115, 111, 114, 116] l = true := by
  unfold seeP
  rw [hkd, wordIx_text hcc (by decide)]
  rfl
 have HSE := Lib.hid hse
 have HKD := Lib.hid hkd
 clear hR hE h hk hj hl3 hl4 hll hjb hq hcc hse hkd
 go_enter Tryz.func117, Tryz.ntmps117
 go_upto_region 0 with (fail)
 go_cut [] (fun wx => wx = (w.setCell ⟨jb, 1, none⟩ (.int .i64 (max q 0))).drew)
 case first =>
  go_region_law (first | (go_simp; go_at_call 90; refine (HIX.out _ (Keeps.refl [] w).drew).mono ?_; rintro e w6 ⟨rfl, rfl⟩))
  all_goals
   go_wp2
   go_meet
   exact rfl
 case rest =>
  subst hcut
  clear c0 z0 lb lg hn hc hc2 k0 k1 k2 hn2 lj f1 f2 HIX
  have hkb : Keeps [jb] w ((w.setCell ⟨jb, 1, none⟩ (.int .i64 (max q 0))).drew) := ((Keeps.refl _ _).setCell (.inl (by simp)) _).drew
  have hj' : JbIs ((w.setCell ⟨jb, 1, none⟩ (.int .i64 (max q 0))).drew) w0.heap.size jb ⟨at_, max q 0, outs, ins, cols, op, left, right, retry⟩ v2 v3 v4 := HJ.out.box hkb ((HJ.out.blk.set 1 (.int .i64 (max q 0))).congr (by rfl)) rfl rfl rfl
  have hp' := HP.out.box HJ.out hkb
  have hk' := HK.out.box HJB.out hkb
  have hm : max q 0 = 4 := by rw [← HQ.out, wordQ_max, HCC.out]; rfl
  rw [hm] at hj' hp' hk' ⊢
  clear hm hkb HJ HP HK
  obtain ⟨y0, hy⟩ : ∃ x, (w.setCell ⟨jb, 1, none⟩ (.int .i64 4)).drew = x := ⟨_, rfl⟩
  rw [hy] at hj' hp' hk' ⊢
  have HJ := Lib.hid hj'
  have HP := Lib.hid hp'
  have HK := Lib.hid hk'
  have jc1 : y0.cell? ⟨jb, 1, none⟩ = some (.int .i64 4) := hj'.blk.cell 1
  have lj := hj'.blk.lt
  obtain ⟨g, o, c, c0, z0, lb, lg, -, hn, hc, hc2, k0, k1, k2, -⟩ := hp'.open'
  have hn2 : (0 : Int) < (l.length : Int) := by omega
  clear hy hj' hp' hk' hn hc hc2 HQ
  rw [HKD.out] at k0
  have wd := (HE.out.one hlo HK.out).env.words 4 (by decide)
  have wd2 : y0.cell? ⟨1, 4, none⟩ = some (.string (bs [115, 111, 114, 116])) := wd
  have lwd := World.block_lt_of_cell? _ _ wd2
  clear wd
  go_wp2_with fail
  refine (must_yes (s := [115, 111, 114, 116]) (r := l.tail) (by unfold mustP; rw [if_pos HSE.out]) y0 HP.out).mono ?_
  rintro ev y1 ⟨rfl, hp, hk⟩
  have HJ' := Lib.hid (HJ.out.ps HP.out hk)
  have HK' := Lib.hid (HK.out.trans hk)
  clear HP HJ HK c0 z0 lb lg k0 k1 k2 hn2 jc1 lj wd2 lwd
  have HP := Lib.hid hp
  have HJ := HJ'
  have HK := HK'
  clear hp hk HJ' HK'
  have HR := HR1
  clear HR1
  have HLQ : Hid (l.tail.length ≤ l.length) := Lib.hid (by rw [List.length_tail]; omega)
  obtain ⟨r0, hr0⟩ : ∃ r0, l.tail = r0 := ⟨_, rfl⟩
  rw [hr0] at HP HR HLQ
  clear hr0 HSE HKD HCC
  have jc1 : y1.cell? ⟨jb, 1, none⟩ = some (.int .i64 4) := HJ.out.blk.cell 1
  have lj0 := HJ.out.blk.lt
  go_upto_region 13 with (fail)
  obtain ⟨A2, c2, hv, -⟩ := own_form HJ.out.o3
  subst hv
  have fS : y1.cell? ⟨jb, 3, none⟩ = some (.slice A2 (ins).length c2) ∧ y1.frozen? ⟨jb, 3, none⟩ = false := ⟨HJ.out.blk.cell 3, HJ.out.blk.frozen 3⟩
  have lj := HJ.out.blk.lt
  have hbd := Lib.hid (show (ins).length + 1 ≤ maxLen ∧ ((ins).length + 1) * 16 ≤ 140737488355328 by have := HL3.out; simp only [maxLen]; first | omega | (simp only [List.length_append, List.length_cons, List.length_nil]; omega))
  have HNE : Hid (jb ∉ [b]) := Lib.hid (by have := HJ.out.blk.ty.ne HP.out.ty (by decide); simpa using this)
  rcases hS : nameP r0 with x | ⟨a2, r2⟩
  ·have hr := HR.out
   rw [hS, err_bind] at hr
   have HX := Lib.hid hr.symm
   have HC : Hid (∀ W, Keeps [] y1 W → Calls Tryz.prog 78 #[.pointer (some ⟨b, 0, none⟩)] W fun e w' => Thrown x e w' ∧ Keeps [b] W w') := Lib.hid (fun W z => name_no hS W (HP.out.keep z))
   clear hr hS
   go_wp2_with fail
   go_region_law (first | (refine step_append_lies _ (by rfl) _ _ _ (by rfl) w0.heap.size 9 i0 _ 1 16 Tryz.underlying39 hi hz0 hz1 hz2 rfl (by decide) (.slice A2 (ins).length c2) (ins).length (strs (ins)) (by rfl) ((HJ.out.ps HP.out hk6.undrew).o3.alloc _) ⟨w6.heap.size, 0, none⟩ 1 1 [.string (bs [])] (by rfl) rfl (World.news_of_block (heap_alloc_new _ _)) (by simp [Value.oneCell']) (by decide) hbd.out.1 hbd.out.2 (by have := HK.out.size; have := hk6.size; have h9 : y1.drew.heap.size = y1.heap.size := rfl; simp; omega) _ rfl ?_; intro gw cap w7 hown7 hgrow7 hat7 hlt7; obtain ⟨fS7, fZ7⟩ := fld_grown hgrow7 (fld_alloc ⟨fS6, fZ6⟩ _) (fun e => (own_ty (HJ.out.ps HP.out hk6.undrew).o3 jb e).ne (HJ.out.ps HP.out hk6.undrew).blk.ty (by decide) rfl)) | (go_simp; go_at_call 78; refine (HC.out _ (Keeps.refl [] y1).drew).mono ?_; rintro e w6 ⟨⟨gi, rfl, hb⟩, hk6⟩; obtain ⟨fS6, fZ6⟩ := fld_keeps hk6 fS HNE.out; have gl6 : jb < w6.heap.size := World.block_lt_of_cell? w6 ⟨jb, 3, none⟩ fS6; dsimp only; (go_loud (refine fake_way ‹∀ (a : Act) (w : World), wpAny _ _ _ _ _ _ a w → _› (some 88) (.string (bs [])) ⟨rfl, by rw [HX.out]; exact ⟨gi, rfl, hb⟩, HK.out.trans hk6.undrew⟩ (fun hF => ?_)))))
   all_goals exact hF.out.elim
  have hr := HR.out
  rw [hS, ok_bind] at hr
  try dsimp only at hr
  clear HR
  have HR := Lib.hid hr
  clear hr
  have HC : Hid (∀ W, Keeps [] y1 W → Calls Tryz.prog 78 #[.pointer (some ⟨b, 0, none⟩)] W fun e w' => e = .returned (.string (bs a2)) ∧ Ps w' b r2 ∧ Keeps [b] W w') := Lib.hid (fun W z => name_yes hS W (HP.out.keep z))
  have HLR : Hid (r2.length ≤ l.length) := Lib.hid (by have := HLQ.out; have := nameP_len hS; omega)
  clear HLQ
  have HLQ := HLR
  clear HLR
  clear hS
  go_cut [] (fun wx => ∃ vz2, JbIs wx w0.heap.size jb (⟨at_, 4, outs, ins ++ [a2], cols, op, left, right, retry⟩ : Jb) v2 vz2 v4 ∧ Ps wx b r2 ∧ Keeps [b] w0 wx)
  case first =>
   go_region_law (first | (refine step_append_lies _ (by rfl) _ _ _ (by rfl) w0.heap.size 9 i0 _ 1 16 Tryz.underlying39 hi hz0 hz1 hz2 rfl (by decide) (.slice A2 (ins).length c2) (ins).length (strs (ins)) (by rfl) ((HJ.out.ps HP.out hk6.undrew).o3.alloc _) ⟨w6.heap.size, 0, none⟩ 1 1 [.string (bs a2)] (by rfl) rfl (World.news_of_block (heap_alloc_new _ _)) (by simp [Value.oneCell']) (by decide) hbd.out.1 hbd.out.2 (by have := HK.out.size; have := hk6.size; have h9 : y1.drew.heap.size = y1.heap.size := rfl; simp; omega) _ rfl ?_; intro gw cap w7 hown7 hgrow7 hat7 hlt7; obtain ⟨fS7, fZ7⟩ := fld_grown hgrow7 (fld_alloc ⟨fS6, fZ6⟩ _) (fun e => (own_ty (HJ.out.ps HP.out hk6.undrew).o3 jb e).ne (HJ.out.ps HP.out hk6.undrew).blk.ty (by decide) rfl)) | (go_simp; go_at_call 78; refine (HC.out _ (Keeps.refl [] y1).drew).mono ?_; rintro e w6 ⟨rfl, hp6, hk6⟩; obtain ⟨fS6, fZ6⟩ := fld_keeps hk6 fS HNE.out; have gl6 : jb < w6.heap.size := World.block_lt_of_cell? w6 ⟨jb, 3, none⟩ fS6))
   all_goals
    go_wp2
    go_meet
    have hh := JbIs.app3 (HJ.out.ps HP.out hk6.undrew) hp6 (HK.out.trans hk6.undrew) rfl HJB.out hgrow7 rfl hown7 hat7 (by simp)
    exact ⟨_, hh.1, hh.2.1, hh.2.2⟩
  case rest =>
   obtain ⟨vz2, hj, hp, hk⟩ := hcut
   obtain ⟨y2, rfl⟩ : ∃ y : World, y = wc := ⟨_, rfl⟩
   clear HP HJ HK HC fS lj hbd HNE
   have HP := Lib.hid hp
   have HJ := Lib.hid hj
   have HK := Lib.hid hk
   have HLN : Hid ((ins ++ [a2]).length ≤ 999000 + 2) := Lib.hid (by have := HL3.out; simp only [List.length_append, List.length_cons, List.length_nil]; omega)
   clear hp hj hk HL3
   generalize ins ++ [a2] = il2 at HJ HR HLN
   have HL3 := HLN
   clear HLN
   clear jc1 lj0
   have jc1 : y2.cell? ⟨jb, 1, none⟩ = some (.int .i64 4) := HJ.out.blk.cell 1
   have lj0 := HJ.out.blk.lt
   have hr := HR.out
   clear HR
   have HR : Hid (byP (⟨at_, 4, outs, il2, cols, op, left, right, retry⟩ : Jb) r2 = R) := Lib.hid hr
   clear hr
   have hr := HR.out
   unfold byP at hr
   clear HR
   have HR := Lib.hid hr
   clear hr
   rcases hS : mustP [98, 121] r2 with x | r3
   ·have hr := HR.out
    rw [hS, err_bind] at hr
    have HX := Lib.hid hr.symm
    have HC := Lib.hid (must_no hS y2 HP.out)
    clear hr hS
    go_wp2_with fail
    refine HC.out.mono ?_
    rintro ev w9 ⟨⟨gi, rfl, hb⟩, hk9⟩
    exact ⟨rfl, by rw [HX.out]; exact ⟨gi, rfl, hb⟩, HK.out.trans hk9⟩
   have hr := HR.out
   rw [hS, ok_bind] at hr
   try dsimp only at hr
   clear HR
   have HR := Lib.hid hr
   clear hr
   have HC := Lib.hid (must_yes hS y2 HP.out)
   have HLR : Hid (r3.length ≤ l.length) := Lib.hid (by have := HLQ.out; have := mustP_len hS; omega)
   clear hS HLQ
   have HLQ := HLR
   clear HLR
   go_wp2_with fail
   refine HC.out.mono ?_
   rintro ev y3 ⟨rfl, hp, hk⟩
   have HJ' := Lib.hid (HJ.out.ps HP.out hk)
   have HK' := Lib.hid (HK.out.trans hk)
   clear HP HJ HK HC
   have HP := Lib.hid hp
   have HJ := HJ'
   have HK := HK'
   clear hp hk HJ' HK'
   clear jc1 lj0
   have hc := names_any y3 HP.out (Nat.le_trans HLQ.out HLL.out)
   rcases hS : namesP r3 with x | ⟨a4, r4⟩
   ·have hr := HR.out
    rw [hS, err_bind] at hr
    have HX := Lib.hid hr.symm
    rw [hS] at hc
    have HC2 := Lib.hid hc
    clear hr hS hc
    go_wp2_with fail
    refine HC2.out.mono ?_
    rintro ev w9 ⟨⟨gi, rfl, hb⟩, hk9⟩
    exact ⟨rfl, by rw [HX.out]; exact ⟨gi, rfl, hb⟩, HK.out.trans hk9⟩
   have hr := HR.out
   rw [hS, ok_bind] at hr
   try dsimp only at hr
   clear HR
   have HR := Lib.hid hr
   clear hr
   rw [hS] at hc
   have HC := Lib.hid hc
   clear hS hc
   go_wp2_with fail
   refine HC.out.mono ?_
   rintro ev y4 ⟨⟨v4, rfl, hov, hp⟩, hk⟩
   obtain ⟨A4, c4, hv, -⟩ := own_form hov
   subst hv
   have HOV := Lib.hid hov
   have HA2 : Hid (Apart v2 (.slice A4 a4.length c4)) := Lib.hid (Apart.new HJ.out.o2 (fun g hg => (hov.lt g hg).1))
   have HA3 : Hid (Apart vz2 (.slice A4 a4.length c4)) := Lib.hid (Apart.new HJ.out.o3 (fun g hg => (hov.lt g hg).1))
   have HWG := Lib.hid HK.out.size
   clear hov
   have HJ' := Lib.hid (HJ.out.ps HP.out hk)
   have HK' := Lib.hid (HK.out.trans hk)
   clear HP HJ HK HC
   have HP := Lib.hid hp
   have HJ := HJ'
   have HK := HK'
   clear hp hk HJ' HK'
   have jf4 := HJ.out.blk.frozen 4
   have jc4 : y4.cell? ⟨jb, 4, none⟩ = some (v4) := HJ.out.blk.cell 4
   have lj := HJ.out.blk.lt
   have hkb : Keeps [jb] y4 (y4.setCell ⟨jb, 4, none⟩ (.slice A4 a4.length c4)) := (Keeps.refl _ _).setCell (.inl (by simp)) _
   have HJ' := Lib.hid (HJ.out.put4 (own_low HOV.out HWG.out) HA2.out HA3.out)
   have HP' := Lib.hid (HP.out.box HJ.out hkb)
   have HK' := Lib.hid (HK.out.box HJB.out hkb)
   clear hkb
   have HX := Lib.hid HR.out.symm
   clear HR
   go_wp2
   first | go_end0 | refine bodyPost_ret (results_none rfl _ _ _) rfl ?_
   exact ⟨by rw [HX.out]; exact ⟨rfl, ⟨_, _, _, HJ'.out⟩, HP'.out⟩, HK'.out⟩
end Go.Proofs.YtnjjajanfedjiaaGreatDoor
namespace Go.Proofs.YtnjjajanfedjiaaGreatDoor
open Go.RowKit Go.BigFrame
attribute [local go_sem] bs_size bs_extract bs_append bs_toList
set_option maxRecDepth 100000 in
set_option maxHeartbeats 8000000 in
theorem body_8 {l : List Tk} {b jb lo : Nat} {v2 v3 v4 : Value} (at_ code : Int) (outs ins cols : List Bs) (op : Bs) (left right : Ar) (retry : Int) (w0 w : World) (hE : FB w0 lo) (hlo : lo ≤ b) (h : Ps w b l) (hk : Keeps [b] w0 w) (hjb : w0.heap.size ≤ jb) (hj : JbIs w w0.heap.size jb ⟨at_, code, outs, ins, cols, op, left, right, retry⟩ v2 v3 v4) (hl3 : ins.length ≤ 1000) (hl4 : cols.length ≤ 1000) (hll : l.length ≤ 1000000) (hcc : wordIx (hdT l).text = 8) (hkd : (hdT l).kind = 1) :
  Calls Tryz.prog 117 #[.pointer (some ⟨b, 0, none⟩), .pointer (some ⟨jb, 0, none⟩)] w fun e w' => JbOut (bodyP ⟨at_, code, outs, ins, cols, op, left, right, retry⟩ l) b w0.heap.size jb e w' ∧ Keeps [b] w0 w' := by
 obtain ⟨i0, hi, hz0, hz1, hz2⟩ := info_parts sinf
 obtain ⟨R, hR⟩ : ∃ R, bodyP ⟨at_, code, outs, ins, cols, op, left, right, retry⟩ l = R := ⟨_, rfl⟩
 rw [hR]
 have HE := Lib.hid hE
 have HP := Lib.hid h
 have HK := Lib.hid hk
 have HJ := Lib.hid hj
 have HJB := Lib.hid hjb
 have HL3 : Hid (ins.length ≤ 999000) := Lib.hid (by omega)
 have HL4 : Hid (cols.length ≤ 999000) := Lib.hid (by omega)
 have HLL := Lib.hid hll
 have HIX : Hid (∀ W, Keeps [] w W → Calls Tryz.prog 90 #[.slice (some ⟨1, 0, none⟩) 10 10, .string (bs (hdT l).text)] W fun e W' => e = .returned (.int .i64 (wordQ (hdT l).text)) ∧ W = W') := Lib.hid (fun W q => index_words (hdT l).text W ((hE.one hlo hk).quiet q).env)
 obtain ⟨q, hq⟩ : ∃ q, wordQ (hdT l).text = q := ⟨_, rfl⟩
 rw [hq] at HIX
 have HQ := Lib.hid hq
 obtain ⟨g, o, c, c0, z0, lb, lg, -, hn, hc, hc2, k0, k1, k2, -⟩ := h.open'
 have hn2 : (0 : Int) < (l.length : Int) := by omega
 have f1 : w.cell? ⟨jb, 1, none⟩ = some (.int .i64 code) := hj.blk.cell 1
 have f2 := hj.blk.frozen 1
 have lj := hj.blk.lt
 have HCC := Lib.hid hcc
 have HR1 : Hid ((nameP l.tail >>= fun p => restP ⟨at_, 8, outs, ins ++ [p.1], cols, op, left, right, retry⟩ p.2) = R) := Lib.hid (by
  rw [← hR]
  unfold bodyP
  rw [hcc, if_neg (by rw [hkd]; decide)]
  rfl)
 have hse : seeP [103, 114, 111, 117, 112] l = true := by
  unfold seeP
  rw [hkd, wordIx_text hcc (by decide)]
  rfl
 have HSE := Lib.hid hse
 have HKD := Lib.hid hkd
 clear hR hE h hk hj hl3 hl4 hll hjb hq hcc hse hkd
 go_enter Tryz.func117, Tryz.ntmps117
 go_upto_region 0 with (fail)
 go_cut [] (fun wx => wx = (w.setCell ⟨jb, 1, none⟩ (.int .i64 (max q 0))).drew)
 case first =>
  go_region_law (first | (go_simp; go_at_call 90; refine (HIX.out _ (Keeps.refl [] w).drew).mono ?_; rintro e w6 ⟨rfl, rfl⟩))
  all_goals
   go_wp2
   go_meet
   exact rfl
 case rest =>
  subst hcut
  clear c0 z0 lb lg hn hc hc2 k0 k1 k2 hn2 lj f1 f2 HIX
  have hkb : Keeps [jb] w ((w.setCell ⟨jb, 1, none⟩ (.int .i64 (max q 0))).drew) := ((Keeps.refl _ _).setCell (.inl (by simp)) _).drew
  have hj' : JbIs ((w.setCell ⟨jb, 1, none⟩ (.int .i64 (max q 0))).drew) w0.heap.size jb ⟨at_, max q 0, outs, ins, cols, op, left, right, retry⟩ v2 v3 v4 := HJ.out.box hkb ((HJ.out.blk.set 1 (.int .i64 (max q 0))).congr (by rfl)) rfl rfl rfl
  have hp' := HP.out.box HJ.out hkb
  have hk' := HK.out.box HJB.out hkb
  have hm : max q 0 = 8 := by rw [← HQ.out, wordQ_max, HCC.out]; rfl
  rw [hm] at hj' hp' hk' ⊢
  clear hm hkb HJ HP HK
  obtain ⟨y0, hy⟩ : ∃ x, (w.setCell ⟨jb, 1, none⟩ (.int .i64 8)).drew = x := ⟨_, rfl⟩
  rw [hy] at hj' hp' hk' ⊢
  have HJ := Lib.hid hj'
  have HP := Lib.hid hp'
  have HK := Lib.hid hk'
  have jc1 : y0.cell? ⟨jb, 1, none⟩ = some (.int .i64 8) := hj'.blk.cell 1
  have lj := hj'.blk.lt
  obtain ⟨g, o, c, c0, z0, lb, lg, -, hn, hc, hc2, k0, k1, k2, -⟩ := hp'.open'
  have hn2 : (0 : Int) < (l.length : Int) := by omega
  clear hy hj' hp' hk' hn hc hc2 HQ
  rw [HKD.out] at k0
  have wd := (HE.out.one hlo HK.out).env.words 8 (by decide)
  have wd2 : y0.cell? ⟨1, 8, none⟩ = some (.string (bs [103, 114, 111, 117, 112])) := wd
  have lwd := World.block_lt_of_cell? _ _ wd2
  clear wd
  go_wp2_with fail
  refine (must_yes (s := [103, 114, 111, 117, 112]) (r := l.tail) (by unfold mustP; rw [if_pos HSE.out]) y0 HP.out).mono ?_
  rintro ev y1 ⟨rfl, hp, hk⟩
  have HJ' := Lib.hid (HJ.out.ps HP.out hk)
  have HK' := Lib.hid (HK.out.trans hk)
  clear HP HJ HK c0 z0 lb lg k0 k1 k2 hn2 jc1 lj wd2 lwd
  have HP := Lib.hid hp
  have HJ := HJ'
  have HK := HK'
  clear hp hk HJ' HK'
  have HR := HR1
  clear HR1
  have HLQ : Hid (l.tail.length ≤ l.length) := Lib.hid (by rw [List.length_tail]; omega)
  obtain ⟨r0, hr0⟩ : ∃ r0, l.tail = r0 := ⟨_, rfl⟩
  rw [hr0] at HP HR HLQ
  clear hr0 HSE HKD HCC
  have jc1 : y1.cell? ⟨jb, 1, none⟩ = some (.int .i64 8) := HJ.out.blk.cell 1
  have lj0 := HJ.out.blk.lt
  go_upto_region 13 with (fail)
  obtain ⟨A2, c2, hv, -⟩ := own_form HJ.out.o3
  subst hv
  have fS : y1.cell? ⟨jb, 3, none⟩ = some (.slice A2 (ins).length c2) ∧ y1.frozen? ⟨jb, 3, none⟩ = false := ⟨HJ.out.blk.cell 3, HJ.out.blk.frozen 3⟩
  have lj := HJ.out.blk.lt
  have hbd := Lib.hid (show (ins).length + 1 ≤ maxLen ∧ ((ins).length + 1) * 16 ≤ 140737488355328 by have := HL3.out; simp only [maxLen]; first | omega | (simp only [List.length_append, List.length_cons, List.length_nil]; omega))
  have HNE : Hid (jb ∉ [b]) := Lib.hid (by have := HJ.out.blk.ty.ne HP.out.ty (by decide); simpa using this)
  rcases hS : nameP r0 with x | ⟨a2, r2⟩
  ·have hr := HR.out
   rw [hS, err_bind] at hr
   have HX := Lib.hid hr.symm
   have HC : Hid (∀ W, Keeps [] y1 W → Calls Tryz.prog 78 #[.pointer (some ⟨b, 0, none⟩)] W fun e w' => Thrown x e w' ∧ Keeps [b] W w') := Lib.hid (fun W z => name_no hS W (HP.out.keep z))
   clear hr hS
   go_wp2_with fail
   go_region_law (first | (refine step_append_lies _ (by rfl) _ _ _ (by rfl) w0.heap.size 9 i0 _ 1 16 Tryz.underlying39 hi hz0 hz1 hz2 rfl (by decide) (.slice A2 (ins).length c2) (ins).length (strs (ins)) (by rfl) ((HJ.out.ps HP.out hk6.undrew).o3.alloc _) ⟨w6.heap.size, 0, none⟩ 1 1 [.string (bs [])] (by rfl) rfl (World.news_of_block (heap_alloc_new _ _)) (by simp [Value.oneCell']) (by decide) hbd.out.1 hbd.out.2 (by have := HK.out.size; have := hk6.size; have h9 : y1.drew.heap.size = y1.heap.size := rfl; simp; omega) _ rfl ?_; intro gw cap w7 hown7 hgrow7 hat7 hlt7; obtain ⟨fS7, fZ7⟩ := fld_grown hgrow7 (fld_alloc ⟨fS6, fZ6⟩ _) (fun e => (own_ty (HJ.out.ps HP.out hk6.undrew).o3 jb e).ne (HJ.out.ps HP.out hk6.undrew).blk.ty (by decide) rfl)) | (go_simp; go_at_call 78; refine (HC.out _ (Keeps.refl [] y1).drew).mono ?_; rintro e w6 ⟨⟨gi, rfl, hb⟩, hk6⟩; obtain ⟨fS6, fZ6⟩ := fld_keeps hk6 fS HNE.out; have gl6 : jb < w6.heap.size := World.block_lt_of_cell? w6 ⟨jb, 3, none⟩ fS6; dsimp only; (go_loud (refine fake_way ‹∀ (a : Act) (w : World), wpAny _ _ _ _ _ _ a w → _› (some 88) (.string (bs [])) ⟨rfl, by rw [HX.out]; exact ⟨gi, rfl, hb⟩, HK.out.trans hk6.undrew⟩ (fun hF => ?_)))))
   all_goals exact hF.out.elim
  have hr := HR.out
  rw [hS, ok_bind] at hr
  try dsimp only at hr
  clear HR
  have HR := Lib.hid hr
  clear hr
  have HC : Hid (∀ W, Keeps [] y1 W → Calls Tryz.prog 78 #[.pointer (some ⟨b, 0, none⟩)] W fun e w' => e = .returned (.string (bs a2)) ∧ Ps w' b r2 ∧ Keeps [b] W w') := Lib.hid (fun W z => name_yes hS W (HP.out.keep z))
  have HLR : Hid (r2.length ≤ l.length) := Lib.hid (by have := HLQ.out; have := nameP_len hS; omega)
  clear HLQ
  have HLQ := HLR
  clear HLR
  clear hS
  go_cut [] (fun wx => ∃ vz2, JbIs wx w0.heap.size jb (⟨at_, 8, outs, ins ++ [a2], cols, op, left, right, retry⟩ : Jb) v2 vz2 v4 ∧ Ps wx b r2 ∧ Keeps [b] w0 wx)
  case first =>
   go_region_law (first | (refine step_append_lies _ (by rfl) _ _ _ (by rfl) w0.heap.size 9 i0 _ 1 16 Tryz.underlying39 hi hz0 hz1 hz2 rfl (by decide) (.slice A2 (ins).length c2) (ins).length (strs (ins)) (by rfl) ((HJ.out.ps HP.out hk6.undrew).o3.alloc _) ⟨w6.heap.size, 0, none⟩ 1 1 [.string (bs a2)] (by rfl) rfl (World.news_of_block (heap_alloc_new _ _)) (by simp [Value.oneCell']) (by decide) hbd.out.1 hbd.out.2 (by have := HK.out.size; have := hk6.size; have h9 : y1.drew.heap.size = y1.heap.size := rfl; simp; omega) _ rfl ?_; intro gw cap w7 hown7 hgrow7 hat7 hlt7; obtain ⟨fS7, fZ7⟩ := fld_grown hgrow7 (fld_alloc ⟨fS6, fZ6⟩ _) (fun e => (own_ty (HJ.out.ps HP.out hk6.undrew).o3 jb e).ne (HJ.out.ps HP.out hk6.undrew).blk.ty (by decide) rfl)) | (go_simp; go_at_call 78; refine (HC.out _ (Keeps.refl [] y1).drew).mono ?_; rintro e w6 ⟨rfl, hp6, hk6⟩; obtain ⟨fS6, fZ6⟩ := fld_keeps hk6 fS HNE.out; have gl6 : jb < w6.heap.size := World.block_lt_of_cell? w6 ⟨jb, 3, none⟩ fS6))
   all_goals
    go_wp2
    go_meet
    have hh := JbIs.app3 (HJ.out.ps HP.out hk6.undrew) hp6 (HK.out.trans hk6.undrew) rfl HJB.out hgrow7 rfl hown7 hat7 (by simp)
    exact ⟨_, hh.1, hh.2.1, hh.2.2⟩
  case rest =>
   obtain ⟨vz2, hj, hp, hk⟩ := hcut
   obtain ⟨y2, rfl⟩ : ∃ y : World, y = wc := ⟨_, rfl⟩
   clear HP HJ HK HC fS lj hbd HNE
   have HP := Lib.hid hp
   have HJ := Lib.hid hj
   have HK := Lib.hid hk
   have HLN : Hid ((ins ++ [a2]).length ≤ 999000 + 2) := Lib.hid (by have := HL3.out; simp only [List.length_append, List.length_cons, List.length_nil]; omega)
   clear hp hj hk HL3
   generalize ins ++ [a2] = il2 at HJ HR HLN
   have HL3 := HLN
   clear HLN
   clear jc1 lj0
   have jc1 : y2.cell? ⟨jb, 1, none⟩ = some (.int .i64 8) := HJ.out.blk.cell 1
   have lj0 := HJ.out.blk.lt
   have hr := HR.out
   clear HR
   have HR : Hid (groupP (⟨at_, 8, outs, il2, cols, op, left, right, retry⟩ : Jb) r2 = R) := Lib.hid hr
   clear hr
   have hr := HR.out
   unfold groupP at hr
   clear HR
   have HR := Lib.hid hr
   clear hr
   rcases hS : mustP [98, 121] r2 with x | r3
   ·have hr := HR.out
    rw [hS, err_bind] at hr
    have HX := Lib.hid hr.symm
    have HC := Lib.hid (must_no hS y2 HP.out)
    clear hr hS
    go_wp2_with fail
    refine HC.out.mono ?_
    rintro ev w9 ⟨⟨gi, rfl, hb⟩, hk9⟩
    exact ⟨rfl, by rw [HX.out]; exact ⟨gi, rfl, hb⟩, HK.out.trans hk9⟩
   have hr := HR.out
   rw [hS, ok_bind] at hr
   try dsimp only at hr
   clear HR
   have HR := Lib.hid hr
   clear hr
   have HC := Lib.hid (must_yes hS y2 HP.out)
   have HLR : Hid (r3.length ≤ l.length) := Lib.hid (by have := HLQ.out; have := mustP_len hS; omega)
   clear hS HLQ
   have HLQ := HLR
   clear HLR
   go_wp2_with fail
   refine HC.out.mono ?_
   rintro ev y3 ⟨rfl, hp, hk⟩
   have HJ' := Lib.hid (HJ.out.ps HP.out hk)
   have HK' := Lib.hid (HK.out.trans hk)
   clear HP HJ HK HC
   have HP := Lib.hid hp
   have HJ := HJ'
   have HK := HK'
   clear hp hk HJ' HK'
   clear jc1 lj0
   rcases hS : nameP r3 with x | ⟨a4, r4⟩
   ·have hr := HR.out
    rw [hS, err_bind] at hr
    have HX := Lib.hid hr.symm
    have HC := Lib.hid (name_no hS y3 HP.out)
    clear hr hS
    go_wp2_with fail
    refine HC.out.mono ?_
    rintro ev w9 ⟨⟨gi, rfl, hb⟩, hk9⟩
    exact ⟨rfl, by rw [HX.out]; exact ⟨gi, rfl, hb⟩, HK.out.trans hk9⟩
   have hr := HR.out
   rw [hS, ok_bind] at hr
   try dsimp only at hr
   clear HR
   have HR := Lib.hid hr
   clear hr
   have HC := Lib.hid (name_yes hS y3 HP.out)
   have HLR : Hid (r4.length ≤ l.length) := Lib.hid (by have := HLQ.out; have := nameP_len hS; omega)
   clear hS HLQ
   have HLQ := HLR
   clear HLR
   go_wp2_with fail
   refine HC.out.mono ?_
   rintro ev y4 ⟨rfl, hp, hk⟩
   have HJ' := Lib.hid (HJ.out.ps HP.out hk)
   have HK' := Lib.hid (HK.out.trans hk)
   clear HP HJ HK HC
   have HP := Lib.hid hp
   have HJ := HJ'
   have HK := HK'
   clear hp hk HJ' HK'
   have jf4 := HJ.out.blk.frozen 4
   have jc4 : y4.cell? ⟨jb, 4, none⟩ = some (v4) := HJ.out.blk.cell 4
   have lj := HJ.out.blk.lt
   have hov : (y4.alloc (.cells #[.string (bs a4)] 9)).ownsRow w0.heap.size 9 1 (.slice (some ⟨y4.heap.size, 0, none⟩) 1 1) [a4].length (strs [a4]) := own_lit (Blk.new y4 9 #[.string (bs a4)]) HK.out.size rfl (by decide)
   have hA2 : Apart (v2) (.slice (some ⟨y4.heap.size, 0, none⟩) 1 1) := Apart.new HJ.out.o2 (fun g hg => by simp [Value.ownBlock] at hg; omega)
   have hA3 : Apart (vz2) (.slice (some ⟨y4.heap.size, 0, none⟩) 1 1) := Apart.new HJ.out.o3 (fun g hg => by simp [Value.ownBlock] at hg; omega)
   have hal : Keeps [] y4 (y4.alloc (.cells #[.string (bs a4)] 9)) := (Keeps.refl _ _).alloc _
   have hkb : Keeps [jb] (y4.alloc (.cells #[.string (bs a4)] 9)) ((y4.alloc (.cells #[.string (bs a4)] 9)).setCell ⟨jb, 4, none⟩ (.slice (some ⟨y4.heap.size, 0, none⟩) 1 1)) := (Keeps.refl _ _).setCell (.inl (by simp)) _
   have hj' := (HJ.out.keep hal).put4 hov hA2 hA3
   have hp' := (HP.out.keep hal).box (HJ.out.keep hal) hkb
   have hk' := Keeps.box (HK.out.trans hal.of_nil) HJB.out hkb
   rw [World.setCell_alloc_past (w := y4) (.cells #[.string (bs a4)] 9) jb 4 (.slice (some ⟨y4.heap.size, 0, none⟩) 1 1) lj] at hj' hp' hk'
   have HJ' := Lib.hid hj'
   have HP' := Lib.hid hp'
   have HK' := Lib.hid hk'
   clear hov hA2 hA3 hal hkb hj' hp' hk'
   go_upto_region 32 with (fail)
   obtain ⟨y5, hy⟩ : ∃ x, ((y4.setCell ⟨jb, 4, none⟩ (.slice (some ⟨y4.heap.size, 0, none⟩) 1 1)).alloc (.cells #[.string (bs a4)] 9)) = x := ⟨_, rfl⟩
   rw [hy] at HJ' HP' HK' ⊢
   obtain ⟨hs5, hsz⟩ : ∃ n, y4.heap.size = n := ⟨_, rfl⟩
   rw [hsz] at HJ'
   try rw [hsz]
   clear hy hsz jf4 jc4 lj HJ HP HK
   have HJ := HJ'
   have HP := HP'
   have HK := HK'
   clear HJ' HP' HK'
   obtain ⟨vl5, hvl⟩ : ∃ v, Value.slice (some ⟨hs5, 0, none⟩) 1 1 = v := ⟨_, rfl⟩
   rw [hvl] at HJ
   clear hvl
   have HLN : Hid ([a4].length ≤ 999000) := Lib.hid (by simp)
   clear HL4
   generalize hcl : [a4] = cl5 at HJ HR HLN
   have HCL := Lib.hid hcl
   clear hcl
   have HL4 := HLN
   clear HLN
   have HJ' := Lib.hid (HJ.out.keep ((Keeps.refl _ _).alloc (.cells #[.string (bs [115, 117, 109]), .string (bs [109, 97, 120])] 9)))
   have HP' := Lib.hid (HP.out.keep ((Keeps.refl _ _).alloc (.cells #[.string (bs [115, 117, 109]), .string (bs [109, 97, 120])] 9)))
   have HK' := Lib.hid (HK.out.alloc (.cells #[.string (bs [115, 117, 109]), .string (bs [109, 97, 120])] 9))
   have HRD : Hid (Rd (y5.alloc (.cells #[.string (bs [115, 117, 109]), .string (bs [109, 97, 120])] 9)) [b] 1 (some ⟨y5.heap.size, 0, none⟩) 2 (strs [[115, 117, 109], [109, 97, 120]])) := Lib.hid (rd_lit [[115, 117, 109], [109, 97, 120]] (Blk.new y5 9 #[.string (bs [115, 117, 109]), .string (bs [109, 97, 120])]) (by have := HP.out.lt; omega))
   clear HJ HP HK
   have HJ := HJ'
   have HP := HP'
   have HK := HK'
   clear HJ' HP' HK'
   go_wp2_with fail
   rcases hS : oneP [[115, 117, 109], [109, 97, 120]] r4 with x | ⟨a6, r6⟩
   ·have hr := HR.out
    rw [hS, err_bind] at hr
    have HX := Lib.hid hr.symm
    have HC := Lib.hid (one_no hS (some ⟨y5.heap.size, 0, none⟩) 2 _ HP.out HRD.out (by decide))
    clear hr hS
    skip
    refine HC.out.mono ?_
    rintro ev w9 ⟨⟨gi, rfl, hb⟩, hk9⟩
    exact ⟨rfl, by rw [HX.out]; exact ⟨gi, rfl, hb⟩, HK.out.trans hk9⟩
   have hr := HR.out
   rw [hS, ok_bind] at hr
   try dsimp only at hr
   clear HR
   have HR := Lib.hid hr
   clear hr
   have HC := Lib.hid (one_yes hS (some ⟨y5.heap.size, 0, none⟩) 2 _ HP.out HRD.out (by decide))
   have HLR : Hid (r6.length ≤ l.length) := Lib.hid (by have := HLQ.out; have := oneP_len hS; omega)
   clear hS HRD HLQ
   have HLQ := HLR
   clear HLR
   refine HC.out.mono ?_
   rintro ev y6 ⟨rfl, hp, hk⟩
   have HJ' := Lib.hid (HJ.out.ps HP.out hk)
   have HK' := Lib.hid (HK.out.trans hk)
   clear HP HJ HK HC
   have HP := Lib.hid hp
   have HJ := HJ'
   have HK := HK'
   clear hp hk HJ' HK'
   have jf5 := HJ.out.blk.frozen 5
   have jc5 : y6.cell? ⟨jb, 5, none⟩ = some (.string (bs op)) := HJ.out.blk.cell 5
   have lj := HJ.out.blk.lt
   have hkb : Keeps [jb] y6 (y6.setCell ⟨jb, 5, none⟩ (.string (bs a6))) := (Keeps.refl _ _).setCell (.inl (by simp)) _
   have HJ' : Hid (JbIs (y6.setCell ⟨jb, 5, none⟩ (.string (bs a6))) w0.heap.size jb (⟨at_, 8, outs, il2, cl5, a6, left, right, retry⟩ : Jb) v2 vz2 vl5) := Lib.hid (HJ.out.box hkb ((HJ.out.blk.set 5 (.string (bs a6))).congr (by rfl)) rfl rfl rfl)
   have HP' := Lib.hid (HP.out.box HJ.out hkb)
   have HK' := Lib.hid (HK.out.box HJB.out hkb)
   clear hkb
   go_upto_region 33 with (fail)
   obtain ⟨y7, hy⟩ : ∃ x, (y6.setCell ⟨jb, 5, none⟩ (.string (bs a6))) = x := ⟨_, rfl⟩
   rw [hy] at HJ' HP' HK' ⊢
   clear hy jf5 jc5 lj HJ HP HK
   have HJ := HJ'
   have HP := HP'
   have HK := HK'
   clear HJ' HP' HK'
   go_upto_region 33 with (fail)
   obtain ⟨A8, c8, hv, -⟩ := own_form HJ.out.o4
   subst hv
   have fS : y7.cell? ⟨jb, 4, none⟩ = some (.slice A8 (cl5).length c8) ∧ y7.frozen? ⟨jb, 4, none⟩ = false := ⟨HJ.out.blk.cell 4, HJ.out.blk.frozen 4⟩
   have lj := HJ.out.blk.lt
   have hbd := Lib.hid (show (cl5).length + 1 ≤ maxLen ∧ ((cl5).length + 1) * 16 ≤ 140737488355328 by have := HL4.out; simp only [maxLen]; first | omega | (simp only [List.length_append, List.length_cons, List.length_nil]; omega))
   have HNE : Hid (jb ∉ [b]) := Lib.hid (by have := HJ.out.blk.ty.ne HP.out.ty (by decide); simpa using this)
   rcases hS : nameP r6 with x | ⟨a8, r8⟩
   ·have hr := HR.out
    rw [hS, err_bind] at hr
    have HX := Lib.hid hr.symm
    have HC : Hid (∀ W, Keeps [] y7 W → Calls Tryz.prog 78 #[.pointer (some ⟨b, 0, none⟩)] W fun e w' => Thrown x e w' ∧ Keeps [b] W w') := Lib.hid (fun W z => name_no hS W (HP.out.keep z))
    clear hr hS
    go_wp2_with fail
    go_region_law (first | (refine step_append_lies _ (by rfl) _ _ _ (by rfl) w0.heap.size 9 i0 _ 1 16 Tryz.underlying39 hi hz0 hz1 hz2 rfl (by decide) (.slice A8 (cl5).length c8) (cl5).length (strs (cl5)) (by rfl) ((HJ.out.ps HP.out hk6.undrew).o4.alloc _) ⟨w6.heap.size, 0, none⟩ 1 1 [.string (bs [])] (by rfl) rfl (World.news_of_block (heap_alloc_new _ _)) (by simp [Value.oneCell']) (by decide) hbd.out.1 hbd.out.2 (by have := HK.out.size; have := hk6.size; have h9 : y7.drew.heap.size = y7.heap.size := rfl; simp; omega) _ rfl ?_; intro gw cap w7 hown7 hgrow7 hat7 hlt7; obtain ⟨fS7, fZ7⟩ := fld_grown hgrow7 (fld_alloc ⟨fS6, fZ6⟩ _) (fun e => (own_ty (HJ.out.ps HP.out hk6.undrew).o4 jb e).ne (HJ.out.ps HP.out hk6.undrew).blk.ty (by decide) rfl)) | (go_simp; go_at_call 78; refine (HC.out _ (Keeps.refl [] y7).drew).mono ?_; rintro e w6 ⟨⟨gi, rfl, hb⟩, hk6⟩; obtain ⟨fS6, fZ6⟩ := fld_keeps hk6 fS HNE.out; have gl6 : jb < w6.heap.size := World.block_lt_of_cell? w6 ⟨jb, 4, none⟩ fS6; dsimp only; (go_loud (refine fake_way ‹∀ (a : Act) (w : World), wpAny _ _ _ _ _ _ a w → _› (some 163) (.string (bs [])) ⟨rfl, by rw [HX.out]; exact ⟨gi, rfl, hb⟩, HK.out.trans hk6.undrew⟩ (fun hF => ?_)))))
    all_goals exact hF.out.elim
   have hr := HR.out
   rw [hS, ok_bind] at hr
   try dsimp only at hr
   clear HR
   have HR := Lib.hid hr
   clear hr
   have HC : Hid (∀ W, Keeps [] y7 W → Calls Tryz.prog 78 #[.pointer (some ⟨b, 0, none⟩)] W fun e w' => e = .returned (.string (bs a8)) ∧ Ps w' b r8 ∧ Keeps [b] W w') := Lib.hid (fun W z => name_yes hS W (HP.out.keep z))
   have HLR : Hid (r8.length ≤ l.length) := Lib.hid (by have := HLQ.out; have := nameP_len hS; omega)
   clear HLQ
   have HLQ := HLR
   clear HLR
   clear hS
   have HX := Lib.hid HR.out.symm
   clear HR
   go_region_law (first | (refine step_append_lies _ (by rfl) _ _ _ (by rfl) w0.heap.size 9 i0 _ 1 16 Tryz.underlying39 hi hz0 hz1 hz2 rfl (by decide) (.slice A8 (cl5).length c8) (cl5).length (strs (cl5)) (by rfl) ((HJ.out.ps HP.out hk6.undrew).o4.alloc _) ⟨w6.heap.size, 0, none⟩ 1 1 [.string (bs a8)] (by rfl) rfl (World.news_of_block (heap_alloc_new _ _)) (by simp [Value.oneCell']) (by decide) hbd.out.1 hbd.out.2 (by have := HK.out.size; have := hk6.size; have h9 : y7.drew.heap.size = y7.heap.size := rfl; simp; omega) _ rfl ?_; intro gw cap w7 hown7 hgrow7 hat7 hlt7; obtain ⟨fS7, fZ7⟩ := fld_grown hgrow7 (fld_alloc ⟨fS6, fZ6⟩ _) (fun e => (own_ty (HJ.out.ps HP.out hk6.undrew).o4 jb e).ne (HJ.out.ps HP.out hk6.undrew).blk.ty (by decide) rfl)) | (go_simp; go_at_call 78; refine (HC.out _ (Keeps.refl [] y7).drew).mono ?_; rintro e w6 ⟨rfl, hp6, hk6⟩; obtain ⟨fS6, fZ6⟩ := fld_keeps hk6 fS HNE.out; have gl6 : jb < w6.heap.size := World.block_lt_of_cell? w6 ⟨jb, 4, none⟩ fS6))
   all_goals
    go_wp2
    first | go_end0 | refine bodyPost_ret (results_none rfl _ _ _) rfl ?_
    try (have hcl := HCL.out; subst hcl)
    have hh := JbIs.app4 (HJ.out.ps HP.out hk6.undrew) hp6 (HK.out.trans hk6.undrew) rfl HJB.out hgrow7 rfl hown7 hat7 (by simp)
    exact ⟨by rw [HX.out]; exact ⟨rfl, ⟨_, _, _, hh.1⟩, hh.2.1⟩, hh.2.2⟩
end Go.Proofs.YtnjjajanfedjiaaGreatDoor
namespace Go.Proofs.YtnjjajanfedjiaaGreatDoor
open Go.RowKit Go.BigFrame
attribute [local go_sem] bs_size bs_extract bs_append bs_toList
theorem body_any {l : List Tk} {b jb lo : Nat} {v2 v3 v4 : Value} (at_ code : Int) (outs ins cols : List Bs) (op : Bs) (left right : Ar) (retry : Int) (w0 w : World) (hE : FB w0 lo) (hlo : lo ≤ b) (h : Ps w b l) (hk : Keeps [b] w0 w) (hjb : w0.heap.size ≤ jb) (hj : JbIs w w0.heap.size jb ⟨at_, code, outs, ins, cols, op, left, right, retry⟩ v2 v3 v4) (hl3 : ins.length ≤ 1000) (hl4 : cols.length ≤ 1000) (hll : l.length ≤ 1000000) :
  Calls Tryz.prog 117 #[.pointer (some ⟨b, 0, none⟩), .pointer (some ⟨jb, 0, none⟩)] w fun e w' => JbOut (bodyP ⟨at_, code, outs, ins, cols, op, left, right, retry⟩ l) b w0.heap.size jb e w' ∧ Keeps [b] w0 w' := by
 have hlt := wordIx_lt (hdT l).text
 by_cases hkd : (hdT l).kind = 1
 ·obtain ⟨c, hc⟩ : ∃ c, wordIx (hdT l).text = c := ⟨_, rfl⟩
  rw [hc] at hlt
  rcases c with _ | _ | _ | _ | _ | _ | _ | _ | _ | _ | c
  ·exact body_zero at_ code outs ins cols op left right retry w0 w hE hlo h hk hjb hj hl3 hl4 hll hc
  ·exact body_1 at_ code outs ins cols op left right retry w0 w hE hlo h hk hjb hj hl3 hl4 hll hc hkd
  ·exact body_2 at_ code outs ins cols op left right retry w0 w hE hlo h hk hjb hj hl3 hl4 hll hc hkd
  ·exact body_3 at_ code outs ins cols op left right retry w0 w hE hlo h hk hjb hj hl3 hl4 hll hc hkd
  ·exact body_4 at_ code outs ins cols op left right retry w0 w hE hlo h hk hjb hj hl3 hl4 hll hc hkd
  ·exact body_5 at_ code outs ins cols op left right retry w0 w hE hlo h hk hjb hj hl3 hl4 hll hc hkd
  ·exact body_6 at_ code outs ins cols op left right retry w0 w hE hlo h hk hjb hj hl3 hl4 hll hc hkd
  ·exact body_7 at_ code outs ins cols op left right retry w0 w hE hlo h hk hjb hj hl3 hl4 hll hc hkd
  ·exact body_8 at_ code outs ins cols op left right retry w0 w hE hlo h hk hjb hj hl3 hl4 hll hc hkd
  ·exact body_9 at_ code outs ins cols op left right retry w0 w hE hlo h hk hjb hj hl3 hl4 hll hc hkd
  ·omega
 ·by_cases h0 : wordIx (hdT l).text = 0
  ·exact body_zero at_ code outs ins cols op left right retry w0 w hE hlo h hk hjb hj hl3 hl4 hll h0
  ·exact body_kind at_ code outs ins cols op left right retry w0 w hE hlo h hk hjb hj hl3 hl4 hll rfl h0 hkd
end Go.Proofs.YtnjjajanfedjiaaGreatDoor
