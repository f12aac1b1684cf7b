/- The reference's body, code 5. The reference's body, code 6. The reference's body, code 7. -/
import Derived.Test.YtnjjajanfedjiaaGreatDoorFrdM19
set_option linter.unusedSimpArgs false
set_option linter.unusedVariables false
namespace Go.Proofs.YtnjjajanfedjiaaGreatDoor
open Go.RowKit Go.BigFrame
attribute [local go_sem] bs_size bs_extract bs_append bs_toList
set_option maxRecDepth 100000 in
set_option maxHeartbeats 8000000 in
theorem rbody_5 {l : List Tk} {b jb lo : Nat} {v2 : Value} (at_ : Int) (outs : List Bs) (retry : Int) (w0 w : World) (hE : RB w0 lo) (hlo : lo ≤ b) (h : RdIs w b l none) (hk : Keeps [b] w0 w) (hjb : w0.heap.size ≤ jb) (hj : JbIs w w0.heap.size jb (job0 at_ outs retry) v2 (.slice none 0 0) (.slice none 0 0)) (hll : l.length ≤ 1000000) (hcc : wordIx (hdT l).text = 5) :
  Calls Tryz.prog 71 #[.pointer (some ⟨b, 0, none⟩), .pointer (some ⟨jb, 0, none⟩)] w fun e w' => e = .returned (.tuple #[]) ∧ RbOut (bodyP (job0 at_ outs retry)) l b jb w0 w' := by
 obtain ⟨i0, hi, hz0, hz1, hz2⟩ := info_parts sinf
 have HE0 := Lib.hid hE
 have HP := Lib.hid h
 have HK := Lib.hid hk
 have HJ : Hid (JbIs w w0.heap.size jb (⟨at_, 0, outs, [], [], [], ⟨[], zV⟩, ⟨[], zV⟩, retry⟩ : Jb) v2 (.slice none 0 0) (.slice none 0 0)) := Lib.hid hj
 have HE := Lib.hid (hE.one hlo hk)
 have HJB := Lib.hid hjb
 have HLL := Lib.hid hll
 have HLQ := Lib.hid (Nat.le_refl l.length)
 have htk : TkR (hdT l) := by obtain ⟨_, _, _, _, _, _, _, _, _, _, _, _, _, _, _, _, hh⟩ := h.open'; exact hh
 have HSW := Lib.hid (fun r hr => see_word htk r hr)
 have HCC := Lib.hid hcc
 have hlI : Hid (([] : List Bs).length ≤ 100) := Lib.hid (by simp)
 have hkd := word_kind htk (by rw [hcc]; decide)
 have HIM : Hid (∀ i l' x', Rl (fun r => nameP r >>= fun p0 => (fun r => mustP [44] r >>= (fun r => nameP r >>= fun p2 => (fun r => .ok ((⟨at_, 5, outs, [] ++ [p0.1] ++ [p2.1], [], [], ⟨[], zV⟩, ⟨[], zV⟩, retry⟩ : Jb), r)) p2.2)) p0.2) l.tail none i l' x' → Rl (bodyP (job0 at_ outs retry)) l none i l' x') := Lib.hid (fun i l' x' hq => Rl.shift (by
  unfold bodyP
  rw [hcc, if_neg (by rw [hkd]; decide)]
  rfl) hq)
 have htx : (hdT l).text = [117, 110, 105, 111, 110] := wordIx_text hcc (by decide)
 have hse : seeP [117, 110, 105, 111, 110] l = true := by
  unfold seeP
  rw [hkd, htx]
  rfl
 have HSE := Lib.hid hse
 have HTX := Lib.hid htx
 clear hE h hk hj hll hjb hcc htk hkd hse htx
 obtain ⟨mx, hmx⟩ := HE.out.renv.mlen
 have HSP := Lib.hid (split_words mx w hmx)
 clear hmx
 go_enter Tryz.func71, Tryz.ntmps71
 go_wp2_with fail
 refine HSP.out.mono ?_
 rintro ev w1 ⟨rfl, rfl⟩
 have hbk := Blk.new w 9 (strs refWords).toArray
 have hal : Keeps [] w (w.alloc (.cells (strs refWords).toArray 9)) := (Keeps.refl _ _).alloc _
 have HP' := Lib.hid (HP.out.keep hal)
 have HJ' := Lib.hid (HJ.out.keep hal)
 have HK' := Lib.hid (HK.out.trans hal.of_nil)
 obtain ⟨B, hB⟩ : ∃ B, w.heap.size = B := ⟨_, rfl⟩
 have HBB : Hid (B ≠ b ∧ jb ≠ B) := Lib.hid (by have := HP.out.lt; have := HJ.out.blk.lt; omega)
 rw [hB] at hbk ⊢
 obtain ⟨w1, hw1⟩ : ∃ z, w.alloc (.cells (strs refWords).toArray 9) = z := ⟨_, rfl⟩
 rw [hw1] at hbk HP' HJ' HK' ⊢
 have HBK := Lib.hid hbk
 clear hbk hal hB hw1 HP HJ HK HE HSP
 go_wp2_with fail
 go_loopw [8] (fun i wr => ∃ r : Nat, r ≤ 9 ∧ i = .int .i64 r ∧ Hid (RdIs wr b l none) ∧ Hid (JbIs wr w0.heap.size jb (⟨at_, (codeR 5 r : Nat), outs, [], [], [], ⟨[], zV⟩, ⟨[], zV⟩, retry⟩ : Jb) v2 (.slice none 0 0) (.slice none 0 0)) ∧ Hid (Blk wr B 9 (strs refWords).toArray) ∧ Hid (Keeps [b] w0 wr)) (fun i _ => 9 - (intOf i).toNat)
 case atStart => exact ⟨0, Nat.zero_le _, rfl, HP', HJ', HBK, HK'⟩
 case round =>
  clear HP' HJ' HK' HBK
  obtain ⟨r, hr, rfl, HP, HJ, HBK, HK⟩ := hrel
  have HE := Lib.hid (HE0.out.one hlo HK.out)
  by_cases hrl : r < 9
  ·have hri : (r : Int) < 9 := by omega
   have hr9 : r < refWords.length := hrl
   have hcl : wr.cell? ⟨B, r, none⟩ = some (.string (bs refWords[r])) := by
    rw [HBK.out.cell r]
    simp [strs, List.getElem?_eq_getElem hr9]
   have lb := HBK.out.lt
   have hS := rsee_any refWords[r] wr HE.out.fine HP.out
   rw [HSW.out r hr9, HCC.out] at hS
   obtain ⟨wd, hwd⟩ : ∃ wd, refWords[r] = wd := ⟨_, rfl⟩
   rw [hwd] at hS hcl
   clear hwd hr9
   by_cases hc : (5 : Nat) = r + 1
   ·rw [decide_eq_true hc] at hS
    have HS := Lib.hid hS
    have HCY : Hid (((r : Int) + 1) = (codeR 5 (r + 1) : Nat)) := Lib.hid (by rw [codeR_yes hc]; omega)
    clear hS hc
    go_wp2_with fail
    refine HS.out.mono ?_
    rintro ev w2 ⟨hev, hk⟩
    have hev' : ev = .returned (.bool true) := hev
    subst hev'
    have HP2 := Lib.hid (HP.out.keep hk)
    have HJ2 := Lib.hid (HJ.out.keep hk)
    have HB2 := Lib.hid (HBK.out.keep hk (by simp))
    have HK2 := Lib.hid (HK.out.trans hk.of_nil)
    have jf1 := HJ2.out.blk.frozen 1
    have jc1 : w2.cell? ⟨jb, 1, none⟩ = some (.int .i64 (codeR 5 r : Nat)) := HJ2.out.blk.cell 1
    have lj := HJ2.out.blk.lt
    clear hev hk HP HJ HBK HK HS hcl lb
    have hkb : Keeps [jb] w2 (w2.setCell ⟨jb, 1, none⟩ (.int .i64 ((r : Int) + 1))) := (Keeps.refl _ _).setCell (.inl (by simp)) _
    have HJ3 : Hid (JbIs (w2.setCell ⟨jb, 1, none⟩ (.int .i64 ((r : Int) + 1))) w0.heap.size jb (⟨at_, (codeR 5 (r + 1) : Nat), outs, [], [], [], ⟨[], zV⟩, ⟨[], zV⟩, retry⟩ : Jb) v2 (.slice none 0 0) (.slice none 0 0)) := Lib.hid (HJ2.out.box hkb ((HJ2.out.blk.set 1 (.int .i64 ((r : Int) + 1))).congr (by rw [HCY.out]; rfl)) rfl rfl rfl)
    have HP3 := Lib.hid (HP2.out.box HJ2.out hkb)
    have HK3 := Lib.hid (HK2.out.box HJB.out hkb)
    have HB3 := Lib.hid (HB2.out.far (p := ⟨jb, 1, none⟩) (fun e => HBB.out.2 e.symm) (.int .i64 ((r : Int) + 1)))
    clear hkb
    go_wp2
    go_roundw
    case rel => exact ⟨r + 1, by omega, by go_num, HP3, HJ3, HB3, HK3⟩
    case measure => simp [intOf]; omega
   ·rw [decide_eq_false hc] at hS
    have HS := Lib.hid hS
    have HCN : Hid (codeR 5 (r + 1) = codeR 5 r) := Lib.hid (codeR_no hc)
    clear hS hc
    go_wp2_with fail
    refine HS.out.mono ?_
    rintro ev w2 ⟨hev, hk⟩
    have hev' : ev = .returned (.bool false) := hev
    subst hev'
    have HP2 := Lib.hid (HP.out.keep hk)
    have HJ2 := Lib.hid (HJ.out.keep hk)
    have HB2 := Lib.hid (HBK.out.keep hk (by simp))
    have HK2 := Lib.hid (HK.out.trans hk.of_nil)
    clear hev hk HP HJ HBK HK HS hcl lb
    go_wp2
    go_roundw
    case rel => exact ⟨r + 1, by omega, by go_num, HP2, by rw [HCN.out]; exact HJ2, HB2, HK2⟩
    case measure => simp [intOf]; omega
  ·obtain rfl : r = 9 := by omega
   have HJ' : Hid (JbIs wr w0.heap.size jb (⟨at_, 5, outs, [], [], [], ⟨[], zV⟩, ⟨[], zV⟩, retry⟩ : Jb) v2 (.slice none 0 0) (.slice none 0 0)) := Lib.hid HJ.out
   clear HJ HBK hr hrl
   have HJ := HJ'
   clear HJ'
   have jc1 : wr.cell? ⟨jb, 1, none⟩ = some (.int .i64 5) := HJ.out.blk.cell 1
   have lj := HJ.out.blk.lt
   obtain ⟨g, o, c, c0, c1, c2, -, lb, lg, -, hn, hc, hc2, k0, k1, k2, -⟩ := HP.out.open'
   rw [HTX.out] at k1
   have hn2 : (0 : Int) < (l.length : Int) := by omega
   have HC := Lib.hid (rmust_any [117, 110, 105, 111, 110] wr HE.out.fine (HE.out.fne hlo) HP.out)
   go_wp2_with fail
   refine HC.out.mono ?_
   rintro ev y1 ⟨rfl, ⟨q1, x1, hp, hr, hll'⟩, hk⟩
   obtain ⟨rfl, rfl⟩ := must_seen hr HSE.out
   clear hr c0 c1 c2 lb lg hn hc hc2 k0 k1 k2 hn2 jc1 lj HSE HTX HSW HCC
   have HJ' := Lib.hid (HJ.out.rd HP.out hk)
   have HK' := Lib.hid (HK.out.trans hk)
   have HE' := Lib.hid (HE.out.one hlo hk)
   have HP' := Lib.hid hp
   clear HJ HK HE HP hk hp HC
   have HJ := HJ'
   have HK := HK'
   have HE := HE'
   have HP := HP'
   clear HJ' HK' HE' HP'
   have HLR := Lib.hid (Nat.le_trans hll' HLQ.out)
   clear hll' HLQ
   have HLQ := HLR
   clear HLR
   obtain ⟨q1, hq1⟩ : ∃ q1, l.tail = q1 := ⟨_, rfl⟩
   rw [hq1] at HP HIM HLQ
   clear hq1
   go_upto_region 9 with (fail)
   have fS : y1.cell? ⟨jb, 3, none⟩ = some (.slice none 0 0) ∧ y1.frozen? ⟨jb, 3, none⟩ = false := ⟨HJ.out.blk.cell 3, HJ.out.blk.frozen 3⟩
   have lj := HJ.out.blk.lt
   have hbd := Lib.hid (show (([] : List Bs)).length + 1 ≤ maxLen ∧ ((([] : List Bs)).length + 1) * 16 ≤ 140737488355328 by have := hlI.out; simp only [maxLen, List.length_cons, List.length_nil] at *; omega)
   have HNE : Hid (jb ∉ [b]) := Lib.hid (by have := HJ.out.blk.ty.ne HP.out.ty (by decide); simpa using this)
   have HC : Hid (∀ W, Keeps [] y1 W → Calls Tryz.prog 32 #[.pointer (some ⟨b, 0, none⟩)] W fun e w' => ∃ s l' x', e = .returned (.string (bs s)) ∧ RdIs w' b l' x' ∧ Rl nameP q1 none s l' x' ∧ s.length ≤ 10 ∧ l'.length ≤ q1.length ∧ Keeps [b] W w') := Lib.hid (fun W z => rname_any W (HE.out.quiet z).fine (HE.out.fne hlo) (HP.out.keep z))
   go_cut [] (fun wx => ∃ a2 q2 x2 vz2, JbIs wx w0.heap.size jb (⟨at_, 5, outs, [] ++ [a2], [], [], ⟨[], zV⟩, ⟨[], zV⟩, retry⟩ : Jb) v2 vz2 (.slice none 0 0) ∧ RdIs wx b q2 x2 ∧ Rl nameP q1 none a2 q2 x2 ∧ q2.length ≤ q1.length ∧ Keeps [b] w0 wx)
   case first =>
    go_region_law (first | (refine step_append_lies _ (by rfl) _ _ _ (by rfl) w0.heap.size 9 i0 _ 1 16 Tryz.underlying39 hi hz0 hz1 hz2 rfl (by decide) (.slice none 0 0) (([] : List Bs)).length (strs (([] : List Bs))) (by rfl) ((HJ.out.rd HP.out hk6.undrew).o3.alloc _) ⟨w6.heap.size, 0, none⟩ 1 1 [.string (bs a2)] (by rfl) rfl (World.news_of_block (heap_alloc_new _ _)) (by simp [Value.oneCell']) (by decide) hbd.out.1 hbd.out.2 (by have := HK.out.size; have := hk6.size; have h9 : y1.drew.heap.size = y1.heap.size := rfl; simp; omega) _ rfl ?_; intro gw cap w7 hown7 hgrow7 hat7 hlt7; obtain ⟨fS7, fZ7⟩ := fld_grown hgrow7 (fld_alloc ⟨fS6, fZ6⟩ _) (fun e => (own_ty (HJ.out.rd HP.out hk6.undrew).o3 jb e).ne (HJ.out.rd HP.out hk6.undrew).blk.ty (by decide) rfl)) | (go_simp; go_at_call 32; refine (HC.out _ (Keeps.refl [] y1).drew).mono ?_; rintro e w6 ⟨a2, q2, x2, rfl, hp6, hr6, hs6, hll6, hk6⟩; obtain ⟨fS6, fZ6⟩ := fld_keeps hk6 fS HNE.out; have gl6 : jb < w6.heap.size := World.block_lt_of_cell? w6 ⟨jb, 3, none⟩ fS6))
    all_goals
     go_wp2
     go_meet
     have hh := JbIs.app3r (HJ.out.rd HP.out hk6.undrew) hp6 (HK.out.trans hk6.undrew) rfl HJB.out hgrow7 rfl hown7 hat7 (by simp)
     exact ⟨a2, q2, x2, _, hh.1, hh.2.1, hr6, hll6, hh.2.2⟩
   case rest =>
    obtain ⟨a2, q2, x2, vz2, hj, hp, hr, hll', hk⟩ := hcut
    obtain ⟨y2, rfl⟩ : ∃ y : World, y = wc := ⟨_, rfl⟩
    clear HP HJ HK HE HC fS lj hbd HNE
    have HP := Lib.hid hp
    have HJ := Lib.hid hj
    have HK := Lib.hid hk
    have HE := Lib.hid (HE0.out.one hlo hk)
    clear hp hj hk
    have HIM' : Hid (∀ i l' x', Rl (fun r => mustP [44] r >>= (fun r => nameP r >>= fun p2 => (fun r => .ok ((⟨at_, 5, outs, [] ++ [a2] ++ [p2.1], [], [], ⟨[], zV⟩, ⟨[], zV⟩, retry⟩ : Jb), r)) p2.2)) q2 x2 i l' x' → Rl (bodyP (job0 at_ outs retry)) l none i l' x') := Lib.hid (fun i l' x' hq => HIM.out i l' x' (Rl.bind (Q := fun a => fun r => mustP [44] r >>= (fun r => nameP r >>= fun p2 => (fun r => .ok ((⟨at_, 5, outs, [] ++ [a] ++ [p2.1], [], [], ⟨[], zV⟩, ⟨[], zV⟩, retry⟩ : Jb), r)) p2.2)) hr hq))
    clear HIM hr
    have HIM := HIM'
    clear HIM'
    have HLR := Lib.hid (Nat.le_trans hll' HLQ.out)
    clear hll' HLQ
    have HLQ := HLR
    clear HLR
    have HLN : Hid (([] ++ [a2]).length ≤ 101) := Lib.hid (by have := hlI.out; simp only [List.length_append, List.length_cons, List.length_nil] at *; omega)
    obtain ⟨il2, hil⟩ : ∃ il, [] ++ [a2] = il := ⟨_, rfl⟩
    rw [hil] at HJ HIM HLN
    clear hil hlI
    have hlI := HLN
    clear HLN
    have jc1 : y2.cell? ⟨jb, 1, none⟩ = some (.int .i64 5) := HJ.out.blk.cell 1
    have lj := HJ.out.blk.lt
    have HC := Lib.hid (rmust_any [44] y2 HE.out.fine (HE.out.fne hlo) HP.out)
    go_wp2_with fail
    refine HC.out.mono ?_
    rintro ev y3 ⟨rfl, ⟨q3, x3, hp, hr, hll'⟩, hk⟩
    have HIM' : Hid (∀ i l' x', Rl (fun r => nameP r >>= fun p2 => (fun r => .ok ((⟨at_, 5, outs, il2 ++ [p2.1], [], [], ⟨[], zV⟩, ⟨[], zV⟩, retry⟩ : Jb), r)) p2.2) q3 x3 i l' x' → Rl (bodyP (job0 at_ outs retry)) l none i l' x') := Lib.hid (fun i l' x' hq => HIM.out i l' x' (Rl.must hr hq))
    clear HIM hr
    have HIM := HIM'
    clear HIM'
    have HJ' := Lib.hid (HJ.out.rd HP.out hk)
    have HK' := Lib.hid (HK.out.trans hk)
    have HE' := Lib.hid (HE.out.one hlo hk)
    have HP' := Lib.hid hp
    clear HJ HK HE HP hk hp HC
    have HJ := HJ'
    have HK := HK'
    have HE := HE'
    have HP := HP'
    clear HJ' HK' HE' HP'
    have HLR := Lib.hid (Nat.le_trans hll' HLQ.out)
    clear hll' HLQ
    have HLQ := HLR
    clear HLR
    clear jc1 lj
    cases x3 with
    | some y =>
     have HD : Hid (∀ i l', Rl (bodyP (job0 at_ outs retry)) l none i l' (some y)) := Lib.hid (fun i l' => HIM.out i l' _ rfl)
     clear HIM
     have HC := Lib.hid (ok_any y3 HE.out.fine HP.out)
     go_wp2_with fail
     refine HC.out.mono ?_
     rintro ev y4 ⟨hev, hk⟩
     have hev' : ev = .returned (.bool false) := hev
     subst hev'
     clear hev
     have HJ' := Lib.hid (HJ.out.keep hk)
     have HK' := Lib.hid (HK.out.trans hk.of_nil)
     have HE' := Lib.hid (HE.out.quiet hk)
     have HP' := Lib.hid (HP.out.keep hk)
     clear HJ HK HE HP hk HC
     have HJ := HJ'
     have HK := HK'
     have HE := HE'
     have HP := HP'
     clear HJ' HK' HE' HP'
     have HFIN : Hid (Rl (bodyP (job0 at_ outs retry)) l none (⟨at_, 5, outs, il2, [], [], ⟨[], zV⟩, ⟨[], zV⟩, retry⟩ : Jb) q3 (some y)) := Lib.hid (HD.out _ _)
     go_wp2
     first | go_end0 | refine bodyPost_ret (results_none rfl _ _ _) rfl ?_
     exact ⟨rfl, RbOut.mk (⟨at_, 5, outs, il2, [], [], ⟨[], zV⟩, ⟨[], zV⟩, retry⟩ : Jb) _ _ _ q3 (some y) HJ.out HP.out HFIN.out HLQ.out HK.out⟩
    | none =>
     have HC := Lib.hid (ok_any y3 HE.out.fine HP.out)
     go_wp2_with fail
     refine HC.out.mono ?_
     rintro ev y4 ⟨hev, hk⟩
     have hev' : ev = .returned (.bool true) := hev
     subst hev'
     clear hev
     have HJ' := Lib.hid (HJ.out.keep hk)
     have HK' := Lib.hid (HK.out.trans hk.of_nil)
     have HE' := Lib.hid (HE.out.quiet hk)
     have HP' := Lib.hid (HP.out.keep hk)
     clear HJ HK HE HP hk HC
     have HJ := HJ'
     have HK := HK'
     have HE := HE'
     have HP := HP'
     clear HJ' HK' HE' HP'
     go_upto_region 37 with (fail)
     obtain ⟨A5, c5, hv, -⟩ := own_form HJ.out.o3
     subst hv
     have fS : y4.cell? ⟨jb, 3, none⟩ = some (.slice A5 (il2).length c5) ∧ y4.frozen? ⟨jb, 3, none⟩ = false := ⟨HJ.out.blk.cell 3, HJ.out.blk.frozen 3⟩
     have lj := HJ.out.blk.lt
     have hbd := Lib.hid (show (il2).length + 1 ≤ maxLen ∧ ((il2).length + 1) * 16 ≤ 140737488355328 by have := hlI.out; simp only [maxLen, List.length_cons, List.length_nil] at *; omega)
     have HNE : Hid (jb ∉ [b]) := Lib.hid (by have := HJ.out.blk.ty.ne HP.out.ty (by decide); simpa using this)
     have HC : Hid (∀ W, Keeps [] y4 W → Calls Tryz.prog 32 #[.pointer (some ⟨b, 0, none⟩)] W fun e w' => ∃ s l' x', e = .returned (.string (bs s)) ∧ RdIs w' b l' x' ∧ Rl nameP q3 none s l' x' ∧ s.length ≤ 10 ∧ l'.length ≤ q3.length ∧ Keeps [b] W w') := Lib.hid (fun W z => rname_any W (HE.out.quiet z).fine (HE.out.fne hlo) (HP.out.keep z))
     have HIM2 := HIM
     go_region_law (first | (refine step_append_lies _ (by rfl) _ _ _ (by rfl) w0.heap.size 9 i0 _ 1 16 Tryz.underlying39 hi hz0 hz1 hz2 rfl (by decide) (.slice A5 (il2).length c5) (il2).length (strs (il2)) (by rfl) ((HJ.out.rd HP.out hk6.undrew).o3.alloc _) ⟨w6.heap.size, 0, none⟩ 1 1 [.string (bs a5)] (by rfl) rfl (World.news_of_block (heap_alloc_new _ _)) (by simp [Value.oneCell']) (by decide) hbd.out.1 hbd.out.2 (by have := HK.out.size; have := hk6.size; have h9 : y4.drew.heap.size = y4.heap.size := rfl; simp; omega) _ rfl ?_; intro gw cap w7 hown7 hgrow7 hat7 hlt7; obtain ⟨fS7, fZ7⟩ := fld_grown hgrow7 (fld_alloc ⟨fS6, fZ6⟩ _) (fun e => (own_ty (HJ.out.rd HP.out hk6.undrew).o3 jb e).ne (HJ.out.rd HP.out hk6.undrew).blk.ty (by decide) rfl)) | (go_simp; go_at_call 32; refine (HC.out _ (Keeps.refl [] y4).drew).mono ?_; rintro e w6 ⟨a5, q5, x5, rfl, hp6, hr6, hs6, hll6, hk6⟩; obtain ⟨fS6, fZ6⟩ := fld_keeps hk6 fS HNE.out; have gl6 : jb < w6.heap.size := World.block_lt_of_cell? w6 ⟨jb, 3, none⟩ fS6))
     all_goals
      go_wp2
      first | go_end0 | refine bodyPost_ret (results_none rfl _ _ _) rfl ?_
      have hh := JbIs.app3r (HJ.out.rd HP.out hk6.undrew) hp6 (HK.out.trans hk6.undrew) rfl HJB.out hgrow7 rfl hown7 hat7 (by simp)
      exact ⟨rfl, RbOut.mk _ _ _ _ q5 x5 hh.1 hh.2.1 (HIM.out _ _ _ (Rl.bind (Q := fun a => fun r => .ok ((⟨at_, 5, outs, il2 ++ [a], [], [], ⟨[], zV⟩, ⟨[], zV⟩, retry⟩ : Jb), r)) hr6 (Rl.stay (fun _ => rfl)))) (Nat.le_trans hll6 HLQ.out) hh.2.2⟩
end Go.Proofs.YtnjjajanfedjiaaGreatDoor
namespace Go.Proofs.YtnjjajanfedjiaaGreatDoor
open Go.RowKit Go.BigFrame
attribute [local go_sem] bs_size bs_extract bs_append bs_toList
set_option maxRecDepth 100000 in
set_option maxHeartbeats 8000000 in
theorem rbody_6 {l : List Tk} {b jb lo : Nat} {v2 : Value} (at_ : Int) (outs : List Bs) (retry : Int) (w0 w : World) (hE : RB w0 lo) (hlo : lo ≤ b) (h : RdIs w b l none) (hk : Keeps [b] w0 w) (hjb : w0.heap.size ≤ jb) (hj : JbIs w w0.heap.size jb (job0 at_ outs retry) v2 (.slice none 0 0) (.slice none 0 0)) (hll : l.length ≤ 1000000) (hcc : wordIx (hdT l).text = 6) :
  Calls Tryz.prog 71 #[.pointer (some ⟨b, 0, none⟩), .pointer (some ⟨jb, 0, none⟩)] w fun e w' => e = .returned (.tuple #[]) ∧ RbOut (bodyP (job0 at_ outs retry)) l b jb w0 w' := by
 obtain ⟨i0, hi, hz0, hz1, hz2⟩ := info_parts sinf
 have HE0 := Lib.hid hE
 have HP := Lib.hid h
 have HK := Lib.hid hk
 have HJ : Hid (JbIs w w0.heap.size jb (⟨at_, 0, outs, [], [], [], ⟨[], zV⟩, ⟨[], zV⟩, retry⟩ : Jb) v2 (.slice none 0 0) (.slice none 0 0)) := Lib.hid hj
 have HE := Lib.hid (hE.one hlo hk)
 have HJB := Lib.hid hjb
 have HLL := Lib.hid hll
 have HLQ := Lib.hid (Nat.le_refl l.length)
 have htk : TkR (hdT l) := by obtain ⟨_, _, _, _, _, _, _, _, _, _, _, _, _, _, _, _, hh⟩ := h.open'; exact hh
 have HSW := Lib.hid (fun r hr => see_word htk r hr)
 have HCC := Lib.hid hcc
 have hlI : Hid (([] : List Bs).length ≤ 100) := Lib.hid (by simp)
 have hkd := word_kind htk (by rw [hcc]; decide)
 have HIM : Hid (∀ i l' x', Rl (fun r => nameP r >>= fun p0 => (fun r => .ok ((⟨at_, 6, outs, [] ++ [p0.1], [], [], ⟨[], zV⟩, ⟨[], zV⟩, retry⟩ : Jb), r)) p0.2) l.tail none i l' x' → Rl (bodyP (job0 at_ outs retry)) l none i l' x') := Lib.hid (fun i l' x' hq => Rl.shift (by
  unfold bodyP
  rw [hcc, if_neg (by rw [hkd]; decide)]
  rfl) hq)
 have htx : (hdT l).text = [100, 105, 115, 116, 105, 110, 99, 116] := wordIx_text hcc (by decide)
 have hse : seeP [100, 105, 115, 116, 105, 110, 99, 116] l = true := by
  unfold seeP
  rw [hkd, htx]
  rfl
 have HSE := Lib.hid hse
 have HTX := Lib.hid htx
 clear hE h hk hj hll hjb hcc htk hkd hse htx
 obtain ⟨mx, hmx⟩ := HE.out.renv.mlen
 have HSP := Lib.hid (split_words mx w hmx)
 clear hmx
 go_enter Tryz.func71, Tryz.ntmps71
 go_wp2_with fail
 refine HSP.out.mono ?_
 rintro ev w1 ⟨rfl, rfl⟩
 have hbk := Blk.new w 9 (strs refWords).toArray
 have hal : Keeps [] w (w.alloc (.cells (strs refWords).toArray 9)) := (Keeps.refl _ _).alloc _
 have HP' := Lib.hid (HP.out.keep hal)
 have HJ' := Lib.hid (HJ.out.keep hal)
 have HK' := Lib.hid (HK.out.trans hal.of_nil)
 obtain ⟨B, hB⟩ : ∃ B, w.heap.size = B := ⟨_, rfl⟩
 have HBB : Hid (B ≠ b ∧ jb ≠ B) := Lib.hid (by have := HP.out.lt; have := HJ.out.blk.lt; omega)
 rw [hB] at hbk ⊢
 obtain ⟨w1, hw1⟩ : ∃ z, w.alloc (.cells (strs refWords).toArray 9) = z := ⟨_, rfl⟩
 rw [hw1] at hbk HP' HJ' HK' ⊢
 have HBK := Lib.hid hbk
 clear hbk hal hB hw1 HP HJ HK HE HSP
 go_wp2_with fail
 go_loopw [8] (fun i wr => ∃ r : Nat, r ≤ 9 ∧ i = .int .i64 r ∧ Hid (RdIs wr b l none) ∧ Hid (JbIs wr w0.heap.size jb (⟨at_, (codeR 6 r : Nat), outs, [], [], [], ⟨[], zV⟩, ⟨[], zV⟩, retry⟩ : Jb) v2 (.slice none 0 0) (.slice none 0 0)) ∧ Hid (Blk wr B 9 (strs refWords).toArray) ∧ Hid (Keeps [b] w0 wr)) (fun i _ => 9 - (intOf i).toNat)
 case atStart => exact ⟨0, Nat.zero_le _, rfl, HP', HJ', HBK, HK'⟩
 case round =>
  clear HP' HJ' HK' HBK
  obtain ⟨r, hr, rfl, HP, HJ, HBK, HK⟩ := hrel
  have HE := Lib.hid (HE0.out.one hlo HK.out)
  by_cases hrl : r < 9
  ·have hri : (r : Int) < 9 := by omega
   have hr9 : r < refWords.length := hrl
   have hcl : wr.cell? ⟨B, r, none⟩ = some (.string (bs refWords[r])) := by
    rw [HBK.out.cell r]
    simp [strs, List.getElem?_eq_getElem hr9]
   have lb := HBK.out.lt
   have hS := rsee_any refWords[r] wr HE.out.fine HP.out
   rw [HSW.out r hr9, HCC.out] at hS
   obtain ⟨wd, hwd⟩ : ∃ wd, refWords[r] = wd := ⟨_, rfl⟩
   rw [hwd] at hS hcl
   clear hwd hr9
   by_cases hc : (6 : Nat) = r + 1
   ·rw [decide_eq_true hc] at hS
    have HS := Lib.hid hS
    have HCY : Hid (((r : Int) + 1) = (codeR 6 (r + 1) : Nat)) := Lib.hid (by rw [codeR_yes hc]; omega)
    clear hS hc
    go_wp2_with fail
    refine HS.out.mono ?_
    rintro ev w2 ⟨hev, hk⟩
    have hev' : ev = .returned (.bool true) := hev
    subst hev'
    have HP2 := Lib.hid (HP.out.keep hk)
    have HJ2 := Lib.hid (HJ.out.keep hk)
    have HB2 := Lib.hid (HBK.out.keep hk (by simp))
    have HK2 := Lib.hid (HK.out.trans hk.of_nil)
    have jf1 := HJ2.out.blk.frozen 1
    have jc1 : w2.cell? ⟨jb, 1, none⟩ = some (.int .i64 (codeR 6 r : Nat)) := HJ2.out.blk.cell 1
    have lj := HJ2.out.blk.lt
    clear hev hk HP HJ HBK HK HS hcl lb
    have hkb : Keeps [jb] w2 (w2.setCell ⟨jb, 1, none⟩ (.int .i64 ((r : Int) + 1))) := (Keeps.refl _ _).setCell (.inl (by simp)) _
    have HJ3 : Hid (JbIs (w2.setCell ⟨jb, 1, none⟩ (.int .i64 ((r : Int) + 1))) w0.heap.size jb (⟨at_, (codeR 6 (r + 1) : Nat), outs, [], [], [], ⟨[], zV⟩, ⟨[], zV⟩, retry⟩ : Jb) v2 (.slice none 0 0) (.slice none 0 0)) := Lib.hid (HJ2.out.box hkb ((HJ2.out.blk.set 1 (.int .i64 ((r : Int) + 1))).congr (by rw [HCY.out]; rfl)) rfl rfl rfl)
    have HP3 := Lib.hid (HP2.out.box HJ2.out hkb)
    have HK3 := Lib.hid (HK2.out.box HJB.out hkb)
    have HB3 := Lib.hid (HB2.out.far (p := ⟨jb, 1, none⟩) (fun e => HBB.out.2 e.symm) (.int .i64 ((r : Int) + 1)))
    clear hkb
    go_wp2
    go_roundw
    case rel => exact ⟨r + 1, by omega, by go_num, HP3, HJ3, HB3, HK3⟩
    case measure => simp [intOf]; omega
   ·rw [decide_eq_false hc] at hS
    have HS := Lib.hid hS
    have HCN : Hid (codeR 6 (r + 1) = codeR 6 r) := Lib.hid (codeR_no hc)
    clear hS hc
    go_wp2_with fail
    refine HS.out.mono ?_
    rintro ev w2 ⟨hev, hk⟩
    have hev' : ev = .returned (.bool false) := hev
    subst hev'
    have HP2 := Lib.hid (HP.out.keep hk)
    have HJ2 := Lib.hid (HJ.out.keep hk)
    have HB2 := Lib.hid (HBK.out.keep hk (by simp))
    have HK2 := Lib.hid (HK.out.trans hk.of_nil)
    clear hev hk HP HJ HBK HK HS hcl lb
    go_wp2
    go_roundw
    case rel => exact ⟨r + 1, by omega, by go_num, HP2, by rw [HCN.out]; exact HJ2, HB2, HK2⟩
    case measure => simp [intOf]; omega
  ·obtain rfl : r = 9 := by omega
   have HJ' : Hid (JbIs wr w0.heap.size jb (⟨at_, 6, outs, [], [], [], ⟨[], zV⟩, ⟨[], zV⟩, retry⟩ : Jb) v2 (.slice none 0 0) (.slice none 0 0)) := Lib.hid HJ.out
   clear HJ HBK hr hrl
   have HJ := HJ'
   clear HJ'
   have jc1 : wr.cell? ⟨jb, 1, none⟩ = some (.int .i64 6) := HJ.out.blk.cell 1
   have lj := HJ.out.blk.lt
   obtain ⟨g, o, c, c0, c1, c2, -, lb, lg, -, hn, hc, hc2, k0, k1, k2, -⟩ := HP.out.open'
   rw [HTX.out] at k1
   have hn2 : (0 : Int) < (l.length : Int) := by omega
   have HC := Lib.hid (rmust_any [100, 105, 115, 116, 105, 110, 99, 116] wr HE.out.fine (HE.out.fne hlo) HP.out)
   go_wp2_with fail
   refine HC.out.mono ?_
   rintro ev y1 ⟨rfl, ⟨q1, x1, hp, hr, hll'⟩, hk⟩
   obtain ⟨rfl, rfl⟩ := must_seen hr HSE.out
   clear hr c0 c1 c2 lb lg hn hc hc2 k0 k1 k2 hn2 jc1 lj HSE HTX HSW HCC
   have HJ' := Lib.hid (HJ.out.rd HP.out hk)
   have HK' := Lib.hid (HK.out.trans hk)
   have HE' := Lib.hid (HE.out.one hlo hk)
   have HP' := Lib.hid hp
   clear HJ HK HE HP hk hp HC
   have HJ := HJ'
   have HK := HK'
   have HE := HE'
   have HP := HP'
   clear HJ' HK' HE' HP'
   have HLR := Lib.hid (Nat.le_trans hll' HLQ.out)
   clear hll' HLQ
   have HLQ := HLR
   clear HLR
   obtain ⟨q1, hq1⟩ : ∃ q1, l.tail = q1 := ⟨_, rfl⟩
   rw [hq1] at HP HIM HLQ
   clear hq1
   go_upto_region 9 with (fail)
   have fS : y1.cell? ⟨jb, 3, none⟩ = some (.slice none 0 0) ∧ y1.frozen? ⟨jb, 3, none⟩ = false := ⟨HJ.out.blk.cell 3, HJ.out.blk.frozen 3⟩
   have lj := HJ.out.blk.lt
   have hbd := Lib.hid (show (([] : List Bs)).length + 1 ≤ maxLen ∧ ((([] : List Bs)).length + 1) * 16 ≤ 140737488355328 by have := hlI.out; simp only [maxLen, List.length_cons, List.length_nil] at *; omega)
   have HNE : Hid (jb ∉ [b]) := Lib.hid (by have := HJ.out.blk.ty.ne HP.out.ty (by decide); simpa using this)
   have HC : Hid (∀ W, Keeps [] y1 W → Calls Tryz.prog 32 #[.pointer (some ⟨b, 0, none⟩)] W fun e w' => ∃ s l' x', e = .returned (.string (bs s)) ∧ RdIs w' b l' x' ∧ Rl nameP q1 none s l' x' ∧ s.length ≤ 10 ∧ l'.length ≤ q1.length ∧ Keeps [b] W w') := Lib.hid (fun W z => rname_any W (HE.out.quiet z).fine (HE.out.fne hlo) (HP.out.keep z))
   go_cut [] (fun wx => ∃ a2 q2 x2 vz2, JbIs wx w0.heap.size jb (⟨at_, 6, outs, [] ++ [a2], [], [], ⟨[], zV⟩, ⟨[], zV⟩, retry⟩ : Jb) v2 vz2 (.slice none 0 0) ∧ RdIs wx b q2 x2 ∧ Rl nameP q1 none a2 q2 x2 ∧ q2.length ≤ q1.length ∧ Keeps [b] w0 wx)
   case first =>
    go_region_law (first | (refine step_append_lies _ (by rfl) _ _ _ (by rfl) w0.heap.size 9 i0 _ 1 16 Tryz.underlying39 hi hz0 hz1 hz2 rfl (by decide) (.slice none 0 0) (([] : List Bs)).length (strs (([] : List Bs))) (by rfl) ((HJ.out.rd HP.out hk6.undrew).o3.alloc _) ⟨w6.heap.size, 0, none⟩ 1 1 [.string (bs a2)] (by rfl) rfl (World.news_of_block (heap_alloc_new _ _)) (by simp [Value.oneCell']) (by decide) hbd.out.1 hbd.out.2 (by have := HK.out.size; have := hk6.size; have h9 : y1.drew.heap.size = y1.heap.size := rfl; simp; omega) _ rfl ?_; intro gw cap w7 hown7 hgrow7 hat7 hlt7; obtain ⟨fS7, fZ7⟩ := fld_grown hgrow7 (fld_alloc ⟨fS6, fZ6⟩ _) (fun e => (own_ty (HJ.out.rd HP.out hk6.undrew).o3 jb e).ne (HJ.out.rd HP.out hk6.undrew).blk.ty (by decide) rfl)) | (go_simp; go_at_call 32; refine (HC.out _ (Keeps.refl [] y1).drew).mono ?_; rintro e w6 ⟨a2, q2, x2, rfl, hp6, hr6, hs6, hll6, hk6⟩; obtain ⟨fS6, fZ6⟩ := fld_keeps hk6 fS HNE.out; have gl6 : jb < w6.heap.size := World.block_lt_of_cell? w6 ⟨jb, 3, none⟩ fS6))
    all_goals
     go_wp2
     go_meet
     have hh := JbIs.app3r (HJ.out.rd HP.out hk6.undrew) hp6 (HK.out.trans hk6.undrew) rfl HJB.out hgrow7 rfl hown7 hat7 (by simp)
     exact ⟨a2, q2, x2, _, hh.1, hh.2.1, hr6, hll6, hh.2.2⟩
   case rest =>
    obtain ⟨a2, q2, x2, vz2, hj, hp, hr, hll', hk⟩ := hcut
    obtain ⟨y2, rfl⟩ : ∃ y : World, y = wc := ⟨_, rfl⟩
    clear HP HJ HK HE HC fS lj hbd HNE
    have HP := Lib.hid hp
    have HJ := Lib.hid hj
    have HK := Lib.hid hk
    have HE := Lib.hid (HE0.out.one hlo hk)
    clear hp hj hk
    have HIM' : Hid (∀ i l' x', Rl (fun r => .ok ((⟨at_, 6, outs, [] ++ [a2], [], [], ⟨[], zV⟩, ⟨[], zV⟩, retry⟩ : Jb), r)) q2 x2 i l' x' → Rl (bodyP (job0 at_ outs retry)) l none i l' x') := Lib.hid (fun i l' x' hq => HIM.out i l' x' (Rl.bind (Q := fun a => fun r => .ok ((⟨at_, 6, outs, [] ++ [a], [], [], ⟨[], zV⟩, ⟨[], zV⟩, retry⟩ : Jb), r)) hr hq))
    clear HIM hr
    have HIM := HIM'
    clear HIM'
    have HLR := Lib.hid (Nat.le_trans hll' HLQ.out)
    clear hll' HLQ
    have HLQ := HLR
    clear HLR
    have HLN : Hid (([] ++ [a2]).length ≤ 101) := Lib.hid (by have := hlI.out; simp only [List.length_append, List.length_cons, List.length_nil] at *; omega)
    obtain ⟨il2, hil⟩ : ∃ il, [] ++ [a2] = il := ⟨_, rfl⟩
    rw [hil] at HJ HIM HLN
    clear hil hlI
    have hlI := HLN
    clear HLN
    have jc1 : y2.cell? ⟨jb, 1, none⟩ = some (.int .i64 6) := HJ.out.blk.cell 1
    have lj := HJ.out.blk.lt
    have HFIN : Hid (Rl (bodyP (job0 at_ outs retry)) l none (⟨at_, 6, outs, il2, [], [], ⟨[], zV⟩, ⟨[], zV⟩, retry⟩ : Jb) q2 x2) := Lib.hid (HIM.out _ _ _ (Rl.stay (fun _ => rfl)))
    go_wp2
    first | go_end0 | refine bodyPost_ret (results_none rfl _ _ _) rfl ?_
    exact ⟨rfl, RbOut.mk (⟨at_, 6, outs, il2, [], [], ⟨[], zV⟩, ⟨[], zV⟩, retry⟩ : Jb) _ _ _ q2 x2 HJ.out HP.out HFIN.out HLQ.out HK.out⟩
end Go.Proofs.YtnjjajanfedjiaaGreatDoor
namespace Go.Proofs.YtnjjajanfedjiaaGreatDoor
open Go.RowKit Go.BigFrame
attribute [local go_sem] bs_size bs_extract bs_append bs_toList
set_option maxRecDepth 100000 in
set_option maxHeartbeats 8000000 in
theorem rbody_7 {l : List Tk} {b jb lo : Nat} {v2 : Value} (at_ : Int) (outs : List Bs) (retry : Int) (w0 w : World) (hE : RB w0 lo) (hlo : lo ≤ b) (h : RdIs w b l none) (hk : Keeps [b] w0 w) (hjb : w0.heap.size ≤ jb) (hj : JbIs w w0.heap.size jb (job0 at_ outs retry) v2 (.slice none 0 0) (.slice none 0 0)) (hll : l.length ≤ 1000000) (hcc : wordIx (hdT l).text = 7) :
  Calls Tryz.prog 71 #[.pointer (some ⟨b, 0, none⟩), .pointer (some ⟨jb, 0, none⟩)] w fun e w' => e = .returned (.tuple #[]) ∧ RbOut (bodyP (job0 at_ outs retry)) l b jb w0 w' := by
 obtain ⟨i0, hi, hz0, hz1, hz2⟩ := info_parts sinf
 have HE0 := Lib.hid hE
 have HP := Lib.hid h
 have HK := Lib.hid hk
 have HJ : Hid (JbIs w w0.heap.size jb (⟨at_, 0, outs, [], [], [], ⟨[], zV⟩, ⟨[], zV⟩, retry⟩ : Jb) v2 (.slice none 0 0) (.slice none 0 0)) := Lib.hid hj
 have HE := Lib.hid (hE.one hlo hk)
 have HJB := Lib.hid hjb
 have HLL := Lib.hid hll
 have HLQ := Lib.hid (Nat.le_refl l.length)
 have htk : TkR (hdT l) := by obtain ⟨_, _, _, _, _, _, _, _, _, _, _, _, _, _, _, _, hh⟩ := h.open'; exact hh
 have HSW := Lib.hid (fun r hr => see_word htk r hr)
 have HCC := Lib.hid hcc
 have hlI : Hid (([] : List Bs).length ≤ 100) := Lib.hid (by simp)
 have hkd := word_kind htk (by rw [hcc]; decide)
 have HIM : Hid (∀ i l' x', Rl (fun r => nameP r >>= fun p0 => (fun r => mustP [46] r >>= (fun r => nameP r >>= fun p2 => (fun r => mustP [44] r >>= (fun r => nameP r >>= fun p4 => (fun r => mustP [46] r >>= (fun r => nameP r >>= fun p6 => (fun r => .ok ((⟨at_, 7, outs, [] ++ [p0.1] ++ [p4.1], [p2.1] ++ [p6.1], [], ⟨[], zV⟩, ⟨[], zV⟩, retry⟩ : Jb), r)) p6.2)) p4.2)) p2.2)) p0.2) l.tail none i l' x' → Rl (bodyP (job0 at_ outs retry)) l none i l' x') := Lib.hid (fun i l' x' hq => Rl.shift (by
  unfold bodyP
  rw [hcc, if_neg (by rw [hkd]; decide)]
  exact join_stage (⟨at_, 7, outs, [], [], [], ⟨[], zV⟩, ⟨[], zV⟩, retry⟩ : Jb) l.tail) hq)
 have htx : (hdT l).text = [106, 111, 105, 110] := wordIx_text hcc (by decide)
 have hse : seeP [106, 111, 105, 110] l = true := by
  unfold seeP
  rw [hkd, htx]
  rfl
 have HSE := Lib.hid hse
 have HTX := Lib.hid htx
 clear hE h hk hj hll hjb hcc htk hkd hse htx
 obtain ⟨mx, hmx⟩ := HE.out.renv.mlen
 have HSP := Lib.hid (split_words mx w hmx)
 clear hmx
 go_enter Tryz.func71, Tryz.ntmps71
 go_wp2_with fail
 refine HSP.out.mono ?_
 rintro ev w1 ⟨rfl, rfl⟩
 have hbk := Blk.new w 9 (strs refWords).toArray
 have hal : Keeps [] w (w.alloc (.cells (strs refWords).toArray 9)) := (Keeps.refl _ _).alloc _
 have HP' := Lib.hid (HP.out.keep hal)
 have HJ' := Lib.hid (HJ.out.keep hal)
 have HK' := Lib.hid (HK.out.trans hal.of_nil)
 obtain ⟨B, hB⟩ : ∃ B, w.heap.size = B := ⟨_, rfl⟩
 have HBB : Hid (B ≠ b ∧ jb ≠ B) := Lib.hid (by have := HP.out.lt; have := HJ.out.blk.lt; omega)
 rw [hB] at hbk ⊢
 obtain ⟨w1, hw1⟩ : ∃ z, w.alloc (.cells (strs refWords).toArray 9) = z := ⟨_, rfl⟩
 rw [hw1] at hbk HP' HJ' HK' ⊢
 have HBK := Lib.hid hbk
 clear hbk hal hB hw1 HP HJ HK HE HSP
 go_wp2_with fail
 go_loopw [8] (fun i wr => ∃ r : Nat, r ≤ 9 ∧ i = .int .i64 r ∧ Hid (RdIs wr b l none) ∧ Hid (JbIs wr w0.heap.size jb (⟨at_, (codeR 7 r : Nat), outs, [], [], [], ⟨[], zV⟩, ⟨[], zV⟩, retry⟩ : Jb) v2 (.slice none 0 0) (.slice none 0 0)) ∧ Hid (Blk wr B 9 (strs refWords).toArray) ∧ Hid (Keeps [b] w0 wr)) (fun i _ => 9 - (intOf i).toNat)
 case atStart => exact ⟨0, Nat.zero_le _, rfl, HP', HJ', HBK, HK'⟩
 case round =>
  clear HP' HJ' HK' HBK
  obtain ⟨r, hr, rfl, HP, HJ, HBK, HK⟩ := hrel
  have HE := Lib.hid (HE0.out.one hlo HK.out)
  by_cases hrl : r < 9
  ·have hri : (r : Int) < 9 := by omega
   have hr9 : r < refWords.length := hrl
   have hcl : wr.cell? ⟨B, r, none⟩ = some (.string (bs refWords[r])) := by
    rw [HBK.out.cell r]
    simp [strs, List.getElem?_eq_getElem hr9]
   have lb := HBK.out.lt
   have hS := rsee_any refWords[r] wr HE.out.fine HP.out
   rw [HSW.out r hr9, HCC.out] at hS
   obtain ⟨wd, hwd⟩ : ∃ wd, refWords[r] = wd := ⟨_, rfl⟩
   rw [hwd] at hS hcl
   clear hwd hr9
   by_cases hc : (7 : Nat) = r + 1
   ·rw [decide_eq_true hc] at hS
    have HS := Lib.hid hS
    have HCY : Hid (((r : Int) + 1) = (codeR 7 (r + 1) : Nat)) := Lib.hid (by rw [codeR_yes hc]; omega)
    clear hS hc
    go_wp2_with fail
    refine HS.out.mono ?_
    rintro ev w2 ⟨hev, hk⟩
    have hev' : ev = .returned (.bool true) := hev
    subst hev'
    have HP2 := Lib.hid (HP.out.keep hk)
    have HJ2 := Lib.hid (HJ.out.keep hk)
    have HB2 := Lib.hid (HBK.out.keep hk (by simp))
    have HK2 := Lib.hid (HK.out.trans hk.of_nil)
    have jf1 := HJ2.out.blk.frozen 1
    have jc1 : w2.cell? ⟨jb, 1, none⟩ = some (.int .i64 (codeR 7 r : Nat)) := HJ2.out.blk.cell 1
    have lj := HJ2.out.blk.lt
    clear hev hk HP HJ HBK HK HS hcl lb
    have hkb : Keeps [jb] w2 (w2.setCell ⟨jb, 1, none⟩ (.int .i64 ((r : Int) + 1))) := (Keeps.refl _ _).setCell (.inl (by simp)) _
    have HJ3 : Hid (JbIs (w2.setCell ⟨jb, 1, none⟩ (.int .i64 ((r : Int) + 1))) w0.heap.size jb (⟨at_, (codeR 7 (r + 1) : Nat), outs, [], [], [], ⟨[], zV⟩, ⟨[], zV⟩, retry⟩ : Jb) v2 (.slice none 0 0) (.slice none 0 0)) := Lib.hid (HJ2.out.box hkb ((HJ2.out.blk.set 1 (.int .i64 ((r : Int) + 1))).congr (by rw [HCY.out]; rfl)) rfl rfl rfl)
    have HP3 := Lib.hid (HP2.out.box HJ2.out hkb)
    have HK3 := Lib.hid (HK2.out.box HJB.out hkb)
    have HB3 := Lib.hid (HB2.out.far (p := ⟨jb, 1, none⟩) (fun e => HBB.out.2 e.symm) (.int .i64 ((r : Int) + 1)))
    clear hkb
    go_wp2
    go_roundw
    case rel => exact ⟨r + 1, by omega, by go_num, HP3, HJ3, HB3, HK3⟩
    case measure => simp [intOf]; omega
   ·rw [decide_eq_false hc] at hS
    have HS := Lib.hid hS
    have HCN : Hid (codeR 7 (r + 1) = codeR 7 r) := Lib.hid (codeR_no hc)
    clear hS hc
    go_wp2_with fail
    refine HS.out.mono ?_
    rintro ev w2 ⟨hev, hk⟩
    have hev' : ev = .returned (.bool false) := hev
    subst hev'
    have HP2 := Lib.hid (HP.out.keep hk)
    have HJ2 := Lib.hid (HJ.out.keep hk)
    have HB2 := Lib.hid (HBK.out.keep hk (by simp))
    have HK2 := Lib.hid (HK.out.trans hk.of_nil)
    clear hev hk HP HJ HBK HK HS hcl lb
    go_wp2
    go_roundw
    case rel => exact ⟨r + 1, by omega, by go_num, HP2, by rw [HCN.out]; exact HJ2, HB2, HK2⟩
    case measure => simp [intOf]; omega
  ·obtain rfl : r = 9 := by omega
   have HJ' : Hid (JbIs wr w0.heap.size jb (⟨at_, 7, outs, [], [], [], ⟨[], zV⟩, ⟨[], zV⟩, retry⟩ : Jb) v2 (.slice none 0 0) (.slice none 0 0)) := Lib.hid HJ.out
   clear HJ HBK hr hrl
   have HJ := HJ'
   clear HJ'
   have jc1 : wr.cell? ⟨jb, 1, none⟩ = some (.int .i64 7) := HJ.out.blk.cell 1
   have lj := HJ.out.blk.lt
   obtain ⟨g, o, c, c0, c1, c2, -, lb, lg, -, hn, hc, hc2, k0, k1, k2, -⟩ := HP.out.open'
   rw [HTX.out] at k1
   have hn2 : (0 : Int) < (l.length : Int) := by omega
   have HC := Lib.hid (rmust_any [106, 111, 105, 110] wr HE.out.fine (HE.out.fne hlo) HP.out)
   go_wp2_with fail
   refine HC.out.mono ?_
   rintro ev y1 ⟨rfl, ⟨q1, x1, hp, hr, hll'⟩, hk⟩
   obtain ⟨rfl, rfl⟩ := must_seen hr HSE.out
   clear hr c0 c1 c2 lb lg hn hc hc2 k0 k1 k2 hn2 jc1 lj HSE HTX HSW HCC
   have HJ' := Lib.hid (HJ.out.rd HP.out hk)
   have HK' := Lib.hid (HK.out.trans hk)
   have HE' := Lib.hid (HE.out.one hlo hk)
   have HP' := Lib.hid hp
   clear HJ HK HE HP hk hp HC
   have HJ := HJ'
   have HK := HK'
   have HE := HE'
   have HP := HP'
   clear HJ' HK' HE' HP'
   have HLR := Lib.hid (Nat.le_trans hll' HLQ.out)
   clear hll' HLQ
   have HLQ := HLR
   clear HLR
   obtain ⟨q1, hq1⟩ : ∃ q1, l.tail = q1 := ⟨_, rfl⟩
   rw [hq1] at HP HIM HLQ
   clear hq1
   go_upto_region 9 with (fail)
   have fS : y1.cell? ⟨jb, 3, none⟩ = some (.slice none 0 0) ∧ y1.frozen? ⟨jb, 3, none⟩ = false := ⟨HJ.out.blk.cell 3, HJ.out.blk.frozen 3⟩
   have lj := HJ.out.blk.lt
   have hbd := Lib.hid (show (([] : List Bs)).length + 1 ≤ maxLen ∧ ((([] : List Bs)).length + 1) * 16 ≤ 140737488355328 by have := hlI.out; simp only [maxLen, List.length_cons, List.length_nil] at *; omega)
   have HNE : Hid (jb ∉ [b]) := Lib.hid (by have := HJ.out.blk.ty.ne HP.out.ty (by decide); simpa using this)
   have HC : Hid (∀ W, Keeps [] y1 W → Calls Tryz.prog 32 #[.pointer (some ⟨b, 0, none⟩)] W fun e w' => ∃ s l' x', e = .returned (.string (bs s)) ∧ RdIs w' b l' x' ∧ Rl nameP q1 none s l' x' ∧ s.length ≤ 10 ∧ l'.length ≤ q1.length ∧ Keeps [b] W w') := Lib.hid (fun W z => rname_any W (HE.out.quiet z).fine (HE.out.fne hlo) (HP.out.keep z))
   go_cut [] (fun wx => ∃ a2 q2 x2 vz2, JbIs wx w0.heap.size jb (⟨at_, 7, outs, [] ++ [a2], [], [], ⟨[], zV⟩, ⟨[], zV⟩, retry⟩ : Jb) v2 vz2 (.slice none 0 0) ∧ RdIs wx b q2 x2 ∧ Rl nameP q1 none a2 q2 x2 ∧ q2.length ≤ q1.length ∧ Keeps [b] w0 wx)
   case first =>
    go_region_law (first | (refine step_append_lies _ (by rfl) _ _ _ (by rfl) w0.heap.size 9 i0 _ 1 16 Tryz.underlying39 hi hz0 hz1 hz2 rfl (by decide) (.slice none 0 0) (([] : List Bs)).length (strs (([] : List Bs))) (by rfl) ((HJ.out.rd HP.out hk6.undrew).o3.alloc _) ⟨w6.heap.size, 0, none⟩ 1 1 [.string (bs a2)] (by rfl) rfl (World.news_of_block (heap_alloc_new _ _)) (by simp [Value.oneCell']) (by decide) hbd.out.1 hbd.out.2 (by have := HK.out.size; have := hk6.size; have h9 : y1.drew.heap.size = y1.heap.size := rfl; simp; omega) _ rfl ?_; intro gw cap w7 hown7 hgrow7 hat7 hlt7; obtain ⟨fS7, fZ7⟩ := fld_grown hgrow7 (fld_alloc ⟨fS6, fZ6⟩ _) (fun e => (own_ty (HJ.out.rd HP.out hk6.undrew).o3 jb e).ne (HJ.out.rd HP.out hk6.undrew).blk.ty (by decide) rfl)) | (go_simp; go_at_call 32; refine (HC.out _ (Keeps.refl [] y1).drew).mono ?_; rintro e w6 ⟨a2, q2, x2, rfl, hp6, hr6, hs6, hll6, hk6⟩; obtain ⟨fS6, fZ6⟩ := fld_keeps hk6 fS HNE.out; have gl6 : jb < w6.heap.size := World.block_lt_of_cell? w6 ⟨jb, 3, none⟩ fS6))
    all_goals
     go_wp2
     go_meet
     have hh := JbIs.app3r (HJ.out.rd HP.out hk6.undrew) hp6 (HK.out.trans hk6.undrew) rfl HJB.out hgrow7 rfl hown7 hat7 (by simp)
     exact ⟨a2, q2, x2, _, hh.1, hh.2.1, hr6, hll6, hh.2.2⟩
   case rest =>
    obtain ⟨a2, q2, x2, vz2, hj, hp, hr, hll', hk⟩ := hcut
    obtain ⟨y2, rfl⟩ : ∃ y : World, y = wc := ⟨_, rfl⟩
    clear HP HJ HK HE HC fS lj hbd HNE
    have HP := Lib.hid hp
    have HJ := Lib.hid hj
    have HK := Lib.hid hk
    have HE := Lib.hid (HE0.out.one hlo hk)
    clear hp hj hk
    have HIM' : Hid (∀ i l' x', Rl (fun r => mustP [46] r >>= (fun r => nameP r >>= fun p2 => (fun r => mustP [44] r >>= (fun r => nameP r >>= fun p4 => (fun r => mustP [46] r >>= (fun r => nameP r >>= fun p6 => (fun r => .ok ((⟨at_, 7, outs, [] ++ [a2] ++ [p4.1], [p2.1] ++ [p6.1], [], ⟨[], zV⟩, ⟨[], zV⟩, retry⟩ : Jb), r)) p6.2)) p4.2)) p2.2)) q2 x2 i l' x' → Rl (bodyP (job0 at_ outs retry)) l none i l' x') := Lib.hid (fun i l' x' hq => HIM.out i l' x' (Rl.bind (Q := fun a => fun r => mustP [46] r >>= (fun r => nameP r >>= fun p2 => (fun r => mustP [44] r >>= (fun r => nameP r >>= fun p4 => (fun r => mustP [46] r >>= (fun r => nameP r >>= fun p6 => (fun r => .ok ((⟨at_, 7, outs, [] ++ [a] ++ [p4.1], [p2.1] ++ [p6.1], [], ⟨[], zV⟩, ⟨[], zV⟩, retry⟩ : Jb), r)) p6.2)) p4.2)) p2.2)) hr hq))
    clear HIM hr
    have HIM := HIM'
    clear HIM'
    have HLR := Lib.hid (Nat.le_trans hll' HLQ.out)
    clear hll' HLQ
    have HLQ := HLR
    clear HLR
    have HLN : Hid (([] ++ [a2]).length ≤ 101) := Lib.hid (by have := hlI.out; simp only [List.length_append, List.length_cons, List.length_nil] at *; omega)
    obtain ⟨il2, hil⟩ : ∃ il, [] ++ [a2] = il := ⟨_, rfl⟩
    rw [hil] at HJ HIM HLN
    clear hil hlI
    have hlI := HLN
    clear HLN
    have jc1 : y2.cell? ⟨jb, 1, none⟩ = some (.int .i64 7) := HJ.out.blk.cell 1
    have lj := HJ.out.blk.lt
    have HC := Lib.hid (rmust_any [46] y2 HE.out.fine (HE.out.fne hlo) HP.out)
    go_wp2_with fail
    refine HC.out.mono ?_
    rintro ev y3 ⟨rfl, ⟨q3, x3, hp, hr, hll'⟩, hk⟩
    have HIM' : Hid (∀ i l' x', Rl (fun r => nameP r >>= fun p2 => (fun r => mustP [44] r >>= (fun r => nameP r >>= fun p4 => (fun r => mustP [46] r >>= (fun r => nameP r >>= fun p6 => (fun r => .ok ((⟨at_, 7, outs, il2 ++ [p4.1], [p2.1] ++ [p6.1], [], ⟨[], zV⟩, ⟨[], zV⟩, retry⟩ : Jb), r)) p6.2)) p4.2)) p2.2) q3 x3 i l' x' → Rl (bodyP (job0 at_ outs retry)) l none i l' x') := Lib.hid (fun i l' x' hq => HIM.out i l' x' (Rl.must hr hq))
    clear HIM hr
    have HIM := HIM'
    clear HIM'
    have HJ' := Lib.hid (HJ.out.rd HP.out hk)
    have HK' := Lib.hid (HK.out.trans hk)
    have HE' := Lib.hid (HE.out.one hlo hk)
    have HP' := Lib.hid hp
    clear HJ HK HE HP hk hp HC
    have HJ := HJ'
    have HK := HK'
    have HE := HE'
    have HP := HP'
    clear HJ' HK' HE' HP'
    have HLR := Lib.hid (Nat.le_trans hll' HLQ.out)
    clear hll' HLQ
    have HLQ := HLR
    clear HLR
    clear jc1 lj
    cases x3 with
    | some y =>
     have HD : Hid (∀ i l', Rl (bodyP (job0 at_ outs retry)) l none i l' (some y)) := Lib.hid (fun i l' => HIM.out i l' _ rfl)
     clear HIM
     have HC := Lib.hid (ok_any y3 HE.out.fine HP.out)
     go_wp2_with fail
     refine HC.out.mono ?_
     rintro ev y4 ⟨hev, hk⟩
     have hev' : ev = .returned (.bool false) := hev
     subst hev'
     clear hev
     have HJ' := Lib.hid (HJ.out.keep hk)
     have HK' := Lib.hid (HK.out.trans hk.of_nil)
     have HE' := Lib.hid (HE.out.quiet hk)
     have HP' := Lib.hid (HP.out.keep hk)
     clear HJ HK HE HP hk HC
     have HJ := HJ'
     have HK := HK'
     have HE := HE'
     have HP := HP'
     clear HJ' HK' HE' HP'
     have HC := Lib.hid (rmust_any [44] y4 HE.out.fine (HE.out.fne hlo) HP.out)
     go_wp2_with fail
     refine HC.out.mono ?_
     rintro ev y5 ⟨rfl, ⟨q5, x5, hp, hr, hll'⟩, hk⟩
     have hx2 := Rl.dead hr
     subst hx2
     clear hr
     have HJ' := Lib.hid (HJ.out.rd HP.out hk)
     have HK' := Lib.hid (HK.out.trans hk)
     have HE' := Lib.hid (HE.out.one hlo hk)
     have HP' := Lib.hid hp
     clear HJ HK HE HP hk hp HC
     have HJ := HJ'
     have HK := HK'
     have HE := HE'
     have HP := HP'
     clear HJ' HK' HE' HP'
     have HLR := Lib.hid (Nat.le_trans hll' HLQ.out)
     clear hll' HLQ
     have HLQ := HLR
     clear HLR
     have HC := Lib.hid (ok_any y5 HE.out.fine HP.out)
     go_wp2_with fail
     refine HC.out.mono ?_
     rintro ev y6 ⟨hev, hk⟩
     have hev' : ev = .returned (.bool false) := hev
     subst hev'
     clear hev
     have HJ' := Lib.hid (HJ.out.keep hk)
     have HK' := Lib.hid (HK.out.trans hk.of_nil)
     have HE' := Lib.hid (HE.out.quiet hk)
     have HP' := Lib.hid (HP.out.keep hk)
     clear HJ HK HE HP hk HC
     have HJ := HJ'
     have HK := HK'
     have HE := HE'
     have HP := HP'
     clear HJ' HK' HE' HP'
     have HC := Lib.hid (rmust_any [46] y6 HE.out.fine (HE.out.fne hlo) HP.out)
     go_wp2_with fail
     refine HC.out.mono ?_
     rintro ev y7 ⟨rfl, ⟨q7, x7, hp, hr, hll'⟩, hk⟩
     have hx2 := Rl.dead hr
     subst hx2
     clear hr
     have HJ' := Lib.hid (HJ.out.rd HP.out hk)
     have HK' := Lib.hid (HK.out.trans hk)
     have HE' := Lib.hid (HE.out.one hlo hk)
     have HP' := Lib.hid hp
     clear HJ HK HE HP hk hp HC
     have HJ := HJ'
     have HK := HK'
     have HE := HE'
     have HP := HP'
     clear HJ' HK' HE' HP'
     have HLR := Lib.hid (Nat.le_trans hll' HLQ.out)
     clear hll' HLQ
     have HLQ := HLR
     clear HLR
     have HC := Lib.hid (ok_any y7 HE.out.fine HP.out)
     go_wp2_with fail
     refine HC.out.mono ?_
     rintro ev y8 ⟨hev, hk⟩
     have hev' : ev = .returned (.bool false) := hev
     subst hev'
     clear hev
     have HJ' := Lib.hid (HJ.out.keep hk)
     have HK' := Lib.hid (HK.out.trans hk.of_nil)
     have HE' := Lib.hid (HE.out.quiet hk)
     have HP' := Lib.hid (HP.out.keep hk)
     clear HJ HK HE HP hk HC
     have HJ := HJ'
     have HK := HK'
     have HE := HE'
     have HP := HP'
     clear HJ' HK' HE' HP'
     have HFIN : Hid (Rl (bodyP (job0 at_ outs retry)) l none (⟨at_, 7, outs, il2, [], [], ⟨[], zV⟩, ⟨[], zV⟩, retry⟩ : Jb) q7 (some y)) := Lib.hid (HD.out _ _)
     go_wp2
     first | go_end0 | refine bodyPost_ret (results_none rfl _ _ _) rfl ?_
     exact ⟨rfl, RbOut.mk (⟨at_, 7, outs, il2, [], [], ⟨[], zV⟩, ⟨[], zV⟩, retry⟩ : Jb) _ _ _ q7 (some y) HJ.out HP.out HFIN.out HLQ.out HK.out⟩
    | none =>
     have HC := Lib.hid (ok_any y3 HE.out.fine HP.out)
     go_wp2_with fail
     refine HC.out.mono ?_
     rintro ev y4 ⟨hev, hk⟩
     have hev' : ev = .returned (.bool true) := hev
     subst hev'
     clear hev
     have HJ' := Lib.hid (HJ.out.keep hk)
     have HK' := Lib.hid (HK.out.trans hk.of_nil)
     have HE' := Lib.hid (HE.out.quiet hk)
     have HP' := Lib.hid (HP.out.keep hk)
     clear HJ HK HE HP hk HC
     have HJ := HJ'
     have HK := HK'
     have HE := HE'
     have HP := HP'
     clear HJ' HK' HE' HP'
     have HC := Lib.hid (rname_any y4 HE.out.fine (HE.out.fne hlo) HP.out)
     go_wp2_with fail
     refine HC.out.mono ?_
     rintro ev y5 ⟨a5, q5, x5, rfl, hp, hr, hs, hll', hk⟩
     clear hs
     have HIM' : Hid (∀ i l' x', Rl (fun r => mustP [44] r >>= (fun r => nameP r >>= fun p4 => (fun r => mustP [46] r >>= (fun r => nameP r >>= fun p6 => (fun r => .ok ((⟨at_, 7, outs, il2 ++ [p4.1], [a5] ++ [p6.1], [], ⟨[], zV⟩, ⟨[], zV⟩, retry⟩ : Jb), r)) p6.2)) p4.2)) q5 x5 i l' x' → Rl (bodyP (job0 at_ outs retry)) l none i l' x') := Lib.hid (fun i l' x' hq => HIM.out i l' x' (Rl.bind (Q := fun a => fun r => mustP [44] r >>= (fun r => nameP r >>= fun p4 => (fun r => mustP [46] r >>= (fun r => nameP r >>= fun p6 => (fun r => .ok ((⟨at_, 7, outs, il2 ++ [p4.1], [a] ++ [p6.1], [], ⟨[], zV⟩, ⟨[], zV⟩, retry⟩ : Jb), r)) p6.2)) p4.2)) hr hq))
     clear HIM hr
     have HIM := HIM'
     clear HIM'
     have HJ' := Lib.hid (HJ.out.rd HP.out hk)
     have HK' := Lib.hid (HK.out.trans hk)
     have HE' := Lib.hid (HE.out.one hlo hk)
     have HP' := Lib.hid hp
     clear HJ HK HE HP hk hp HC
     have HJ := HJ'
     have HK := HK'
     have HE := HE'
     have HP := HP'
     clear HJ' HK' HE' HP'
     have HLR := Lib.hid (Nat.le_trans hll' HLQ.out)
     clear hll' HLQ
     have HLQ := HLR
     clear HLR
     have jf4 := HJ.out.blk.frozen 4
     have jc4 : y5.cell? ⟨jb, 4, none⟩ = some ((.slice none 0 0)) := HJ.out.blk.cell 4
     have lj := HJ.out.blk.lt
     have hov : (y5.alloc (.cells #[.string (bs a5)] 9)).ownsRow w0.heap.size 9 1 (.slice (some ⟨y5.heap.size, 0, none⟩) 1 1) [a5].length (strs [a5]) := own_lit (Blk.new y5 9 #[.string (bs a5)]) HK.out.size rfl (by decide)
     have hA2 : Apart (v2) (.slice (some ⟨y5.heap.size, 0, none⟩) 1 1) := Apart.new HJ.out.o2 (fun g hg => by simp [Value.ownBlock] at hg; omega)
     have hA3 : Apart (vz2) (.slice (some ⟨y5.heap.size, 0, none⟩) 1 1) := Apart.new HJ.out.o3 (fun g hg => by simp [Value.ownBlock] at hg; omega)
     have hal : Keeps [] y5 (y5.alloc (.cells #[.string (bs a5)] 9)) := (Keeps.refl _ _).alloc _
     have hkb : Keeps [jb] (y5.alloc (.cells #[.string (bs a5)] 9)) ((y5.alloc (.cells #[.string (bs a5)] 9)).setCell ⟨jb, 4, none⟩ (.slice (some ⟨y5.heap.size, 0, none⟩) 1 1)) := (Keeps.refl _ _).setCell (.inl (by simp)) _
     have hj' := (HJ.out.keep hal).put4 hov hA2 hA3
     have hp' := (HP.out.keep hal).box (HJ.out.keep hal) hkb
     have hk' := Keeps.box (HK.out.trans hal.of_nil) HJB.out hkb
     rw [World.setCell_alloc_past (w := y5) (.cells #[.string (bs a5)] 9) jb 4 (.slice (some ⟨y5.heap.size, 0, none⟩) 1 1) lj] at hj' hp' hk'
     have HJ' := Lib.hid hj'
     have HP' := Lib.hid hp'
     have HK' := Lib.hid hk'
     have HE' := Lib.hid (HE0.out.one hlo hk')
     clear hov hA2 hA3 hal hkb hj' hp' hk'
     go_upto_region 42 with (fail)
     obtain ⟨y6, hy⟩ : ∃ x, ((y5.setCell ⟨jb, 4, none⟩ (.slice (some ⟨y5.heap.size, 0, none⟩) 1 1)).alloc (.cells #[.string (bs a5)] 9)) = x := ⟨_, rfl⟩
     rw [hy] at HJ' HP' HK' HE' ⊢
     obtain ⟨hs6, hsz⟩ : ∃ n, y5.heap.size = n := ⟨_, rfl⟩
     rw [hsz] at HJ'
     try rw [hsz]
     clear hy hsz jf4 jc4 lj HJ HP HK HE
     have HJ := HJ'
     have HP := HP'
     have HK := HK'
     have HE := HE'
     clear HJ' HP' HK' HE'
     obtain ⟨vl6, hvl⟩ : ∃ v, Value.slice (some ⟨hs6, 0, none⟩) 1 1 = v := ⟨_, rfl⟩
     rw [hvl] at HJ
     clear hvl
     have HC := Lib.hid (rmust_any [44] y6 HE.out.fine (HE.out.fne hlo) HP.out)
     go_wp2_with fail
     refine HC.out.mono ?_
     rintro ev y7 ⟨rfl, ⟨q7, x7, hp, hr, hll'⟩, hk⟩
     have HIM' : Hid (∀ i l' x', Rl (fun r => nameP r >>= fun p4 => (fun r => mustP [46] r >>= (fun r => nameP r >>= fun p6 => (fun r => .ok ((⟨at_, 7, outs, il2 ++ [p4.1], [a5] ++ [p6.1], [], ⟨[], zV⟩, ⟨[], zV⟩, retry⟩ : Jb), r)) p6.2)) p4.2) q7 x7 i l' x' → Rl (bodyP (job0 at_ outs retry)) l none i l' x') := Lib.hid (fun i l' x' hq => HIM.out i l' x' (Rl.must hr hq))
     clear HIM hr
     have HIM := HIM'
     clear HIM'
     have HJ' := Lib.hid (HJ.out.rd HP.out hk)
     have HK' := Lib.hid (HK.out.trans hk)
     have HE' := Lib.hid (HE.out.one hlo hk)
     have HP' := Lib.hid hp
     clear HJ HK HE HP hk hp HC
     have HJ := HJ'
     have HK := HK'
     have HE := HE'
     have HP := HP'
     clear HJ' HK' HE' HP'
     have HLR := Lib.hid (Nat.le_trans hll' HLQ.out)
     clear hll' HLQ
     have HLQ := HLR
     clear HLR
     cases x7 with
     | some y =>
      have HD : Hid (∀ i l', Rl (bodyP (job0 at_ outs retry)) l none i l' (some y)) := Lib.hid (fun i l' => HIM.out i l' _ rfl)
      clear HIM
      have HC := Lib.hid (ok_any y7 HE.out.fine HP.out)
      go_wp2_with fail
      refine HC.out.mono ?_
      rintro ev y8 ⟨hev, hk⟩
      have hev' : ev = .returned (.bool false) := hev
      subst hev'
      clear hev
      have HJ' := Lib.hid (HJ.out.keep hk)
      have HK' := Lib.hid (HK.out.trans hk.of_nil)
      have HE' := Lib.hid (HE.out.quiet hk)
      have HP' := Lib.hid (HP.out.keep hk)
      clear HJ HK HE HP hk HC
      have HJ := HJ'
      have HK := HK'
      have HE := HE'
      have HP := HP'
      clear HJ' HK' HE' HP'
      have HC := Lib.hid (rmust_any [46] y8 HE.out.fine (HE.out.fne hlo) HP.out)
      go_wp2_with fail
      refine HC.out.mono ?_
      rintro ev y9 ⟨rfl, ⟨q9, x9, hp, hr, hll'⟩, hk⟩
      have hx2 := Rl.dead hr
      subst hx2
      clear hr
      have HJ' := Lib.hid (HJ.out.rd HP.out hk)
      have HK' := Lib.hid (HK.out.trans hk)
      have HE' := Lib.hid (HE.out.one hlo hk)
      have HP' := Lib.hid hp
      clear HJ HK HE HP hk hp HC
      have HJ := HJ'
      have HK := HK'
      have HE := HE'
      have HP := HP'
      clear HJ' HK' HE' HP'
      have HLR := Lib.hid (Nat.le_trans hll' HLQ.out)
      clear hll' HLQ
      have HLQ := HLR
      clear HLR
      have HC := Lib.hid (ok_any y9 HE.out.fine HP.out)
      go_wp2_with fail
      refine HC.out.mono ?_
      rintro ev y10 ⟨hev, hk⟩
      have hev' : ev = .returned (.bool false) := hev
      subst hev'
      clear hev
      have HJ' := Lib.hid (HJ.out.keep hk)
      have HK' := Lib.hid (HK.out.trans hk.of_nil)
      have HE' := Lib.hid (HE.out.quiet hk)
      have HP' := Lib.hid (HP.out.keep hk)
      clear HJ HK HE HP hk HC
      have HJ := HJ'
      have HK := HK'
      have HE := HE'
      have HP := HP'
      clear HJ' HK' HE' HP'
      have HFIN : Hid (Rl (bodyP (job0 at_ outs retry)) l none (⟨at_, 7, outs, il2, [a5], [], ⟨[], zV⟩, ⟨[], zV⟩, retry⟩ : Jb) q9 (some y)) := Lib.hid (HD.out _ _)
      go_wp2
      first | go_end0 | refine bodyPost_ret (results_none rfl _ _ _) rfl ?_
      exact ⟨rfl, RbOut.mk (⟨at_, 7, outs, il2, [a5], [], ⟨[], zV⟩, ⟨[], zV⟩, retry⟩ : Jb) _ _ _ q9 (some y) HJ.out HP.out HFIN.out HLQ.out HK.out⟩
     | none =>
      have HC := Lib.hid (ok_any y7 HE.out.fine HP.out)
      go_wp2_with fail
      refine HC.out.mono ?_
      rintro ev y8 ⟨hev, hk⟩
      have hev' : ev = .returned (.bool true) := hev
      subst hev'
      clear hev
      have HJ' := Lib.hid (HJ.out.keep hk)
      have HK' := Lib.hid (HK.out.trans hk.of_nil)
      have HE' := Lib.hid (HE.out.quiet hk)
      have HP' := Lib.hid (HP.out.keep hk)
      clear HJ HK HE HP hk HC
      have HJ := HJ'
      have HK := HK'
      have HE := HE'
      have HP := HP'
      clear HJ' HK' HE' HP'
      go_upto_region 44 with (fail)
      obtain ⟨A9, c9, hv, -⟩ := own_form HJ.out.o3
      subst hv
      have fS : y8.cell? ⟨jb, 3, none⟩ = some (.slice A9 (il2).length c9) ∧ y8.frozen? ⟨jb, 3, none⟩ = false := ⟨HJ.out.blk.cell 3, HJ.out.blk.frozen 3⟩
      have lj := HJ.out.blk.lt
      have hbd := Lib.hid (show (il2).length + 1 ≤ maxLen ∧ ((il2).length + 1) * 16 ≤ 140737488355328 by have := hlI.out; simp only [maxLen, List.length_cons, List.length_nil] at *; omega)
      have HNE : Hid (jb ∉ [b]) := Lib.hid (by have := HJ.out.blk.ty.ne HP.out.ty (by decide); simpa using this)
      have HC : Hid (∀ W, Keeps [] y8 W → Calls Tryz.prog 32 #[.pointer (some ⟨b, 0, none⟩)] W fun e w' => ∃ s l' x', e = .returned (.string (bs s)) ∧ RdIs w' b l' x' ∧ Rl nameP q7 none s l' x' ∧ s.length ≤ 10 ∧ l'.length ≤ q7.length ∧ Keeps [b] W w') := Lib.hid (fun W z => rname_any W (HE.out.quiet z).fine (HE.out.fne hlo) (HP.out.keep z))
      go_cut [] (fun wx => ∃ a9 q9 x9 vz9, JbIs wx w0.heap.size jb (⟨at_, 7, outs, il2 ++ [a9], [a5], [], ⟨[], zV⟩, ⟨[], zV⟩, retry⟩ : Jb) v2 vz9 vl6 ∧ RdIs wx b q9 x9 ∧ Rl nameP q7 none a9 q9 x9 ∧ q9.length ≤ q7.length ∧ Keeps [b] w0 wx)
      case first =>
       go_region_law (first | (refine step_append_lies _ (by rfl) _ _ _ (by rfl) w0.heap.size 9 i0 _ 1 16 Tryz.underlying39 hi hz0 hz1 hz2 rfl (by decide) (.slice A9 (il2).length c9) (il2).length (strs (il2)) (by rfl) ((HJ.out.rd HP.out hk6.undrew).o3.alloc _) ⟨w6.heap.size, 0, none⟩ 1 1 [.string (bs a9)] (by rfl) rfl (World.news_of_block (heap_alloc_new _ _)) (by simp [Value.oneCell']) (by decide) hbd.out.1 hbd.out.2 (by have := HK.out.size; have := hk6.size; have h9 : y8.drew.heap.size = y8.heap.size := rfl; simp; omega) _ rfl ?_; intro gw cap w7 hown7 hgrow7 hat7 hlt7; obtain ⟨fS7, fZ7⟩ := fld_grown hgrow7 (fld_alloc ⟨fS6, fZ6⟩ _) (fun e => (own_ty (HJ.out.rd HP.out hk6.undrew).o3 jb e).ne (HJ.out.rd HP.out hk6.undrew).blk.ty (by decide) rfl)) | (go_simp; go_at_call 32; refine (HC.out _ (Keeps.refl [] y8).drew).mono ?_; rintro e w6 ⟨a9, q9, x9, rfl, hp6, hr6, hs6, hll6, hk6⟩; obtain ⟨fS6, fZ6⟩ := fld_keeps hk6 fS HNE.out; have gl6 : jb < w6.heap.size := World.block_lt_of_cell? w6 ⟨jb, 3, none⟩ fS6))
       all_goals
        go_wp2
        go_meet
        have hh := JbIs.app3r (HJ.out.rd HP.out hk6.undrew) hp6 (HK.out.trans hk6.undrew) rfl HJB.out hgrow7 rfl hown7 hat7 (by simp)
        exact ⟨a9, q9, x9, _, hh.1, hh.2.1, hr6, hll6, hh.2.2⟩
      case rest =>
       obtain ⟨a9, q9, x9, vz9, hj, hp, hr, hll', hk⟩ := hcut
       obtain ⟨y9, rfl⟩ : ∃ y : World, y = wc := ⟨_, rfl⟩
       clear HP HJ HK HE HC fS lj hbd HNE
       have HP := Lib.hid hp
       have HJ := Lib.hid hj
       have HK := Lib.hid hk
       have HE := Lib.hid (HE0.out.one hlo hk)
       clear hp hj hk
       have HIM' : Hid (∀ i l' x', Rl (fun r => mustP [46] r >>= (fun r => nameP r >>= fun p6 => (fun r => .ok ((⟨at_, 7, outs, il2 ++ [a9], [a5] ++ [p6.1], [], ⟨[], zV⟩, ⟨[], zV⟩, retry⟩ : Jb), r)) p6.2)) q9 x9 i l' x' → Rl (bodyP (job0 at_ outs retry)) l none i l' x') := Lib.hid (fun i l' x' hq => HIM.out i l' x' (Rl.bind (Q := fun a => fun r => mustP [46] r >>= (fun r => nameP r >>= fun p6 => (fun r => .ok ((⟨at_, 7, outs, il2 ++ [a], [a5] ++ [p6.1], [], ⟨[], zV⟩, ⟨[], zV⟩, retry⟩ : Jb), r)) p6.2)) hr hq))
       clear HIM hr
       have HIM := HIM'
       clear HIM'
       have HLR := Lib.hid (Nat.le_trans hll' HLQ.out)
       clear hll' HLQ
       have HLQ := HLR
       clear HLR
       have HLN : Hid ((il2 ++ [a9]).length ≤ 102) := Lib.hid (by have := hlI.out; simp only [List.length_append, List.length_cons, List.length_nil] at *; omega)
       obtain ⟨il9, hil⟩ : ∃ il, il2 ++ [a9] = il := ⟨_, rfl⟩
       rw [hil] at HJ HIM HLN
       clear hil hlI
       have hlI := HLN
       clear HLN
       have HC := Lib.hid (rmust_any [46] y9 HE.out.fine (HE.out.fne hlo) HP.out)
       go_wp2_with fail
       refine HC.out.mono ?_
       rintro ev y10 ⟨rfl, ⟨q10, x10, hp, hr, hll'⟩, hk⟩
       have HIM' : Hid (∀ i l' x', Rl (fun r => nameP r >>= fun p6 => (fun r => .ok ((⟨at_, 7, outs, il9, [a5] ++ [p6.1], [], ⟨[], zV⟩, ⟨[], zV⟩, retry⟩ : Jb), r)) p6.2) q10 x10 i l' x' → Rl (bodyP (job0 at_ outs retry)) l none i l' x') := Lib.hid (fun i l' x' hq => HIM.out i l' x' (Rl.must hr hq))
       clear HIM hr
       have HIM := HIM'
       clear HIM'
       have HJ' := Lib.hid (HJ.out.rd HP.out hk)
       have HK' := Lib.hid (HK.out.trans hk)
       have HE' := Lib.hid (HE.out.one hlo hk)
       have HP' := Lib.hid hp
       clear HJ HK HE HP hk hp HC
       have HJ := HJ'
       have HK := HK'
       have HE := HE'
       have HP := HP'
       clear HJ' HK' HE' HP'
       have HLR := Lib.hid (Nat.le_trans hll' HLQ.out)
       clear hll' HLQ
       have HLQ := HLR
       clear HLR
       cases x10 with
       | some y =>
        have HD : Hid (∀ i l', Rl (bodyP (job0 at_ outs retry)) l none i l' (some y)) := Lib.hid (fun i l' => HIM.out i l' _ rfl)
        clear HIM
        have HC := Lib.hid (ok_any y10 HE.out.fine HP.out)
        go_wp2_with fail
        refine HC.out.mono ?_
        rintro ev y11 ⟨hev, hk⟩
        have hev' : ev = .returned (.bool false) := hev
        subst hev'
        clear hev
        have HJ' := Lib.hid (HJ.out.keep hk)
        have HK' := Lib.hid (HK.out.trans hk.of_nil)
        have HE' := Lib.hid (HE.out.quiet hk)
        have HP' := Lib.hid (HP.out.keep hk)
        clear HJ HK HE HP hk HC
        have HJ := HJ'
        have HK := HK'
        have HE := HE'
        have HP := HP'
        clear HJ' HK' HE' HP'
        have HFIN : Hid (Rl (bodyP (job0 at_ outs retry)) l none (⟨at_, 7, outs, il9, [a5], [], ⟨[], zV⟩, ⟨[], zV⟩, retry⟩ : Jb) q10 (some y)) := Lib.hid (HD.out _ _)
        go_wp2
        first | go_end0 | refine bodyPost_ret (results_none rfl _ _ _) rfl ?_
        exact ⟨rfl, RbOut.mk (⟨at_, 7, outs, il9, [a5], [], ⟨[], zV⟩, ⟨[], zV⟩, retry⟩ : Jb) _ _ _ q10 (some y) HJ.out HP.out HFIN.out HLQ.out HK.out⟩
       | none =>
        have HC := Lib.hid (ok_any y10 HE.out.fine HP.out)
        go_wp2_with fail
        refine HC.out.mono ?_
        rintro ev y11 ⟨hev, hk⟩
        have hev' : ev = .returned (.bool true) := hev
        subst hev'
        clear hev
        have HJ' := Lib.hid (HJ.out.keep hk)
        have HK' := Lib.hid (HK.out.trans hk.of_nil)
        have HE' := Lib.hid (HE.out.quiet hk)
        have HP' := Lib.hid (HP.out.keep hk)
        clear HJ HK HE HP hk HC
        have HJ := HJ'
        have HK := HK'
        have HE := HE'
        have HP := HP'
        clear HJ' HK' HE' HP'
        go_upto_region 47 with (fail)
        obtain ⟨A12, c12, hv, -⟩ := own_form HJ.out.o4
        subst hv
        have fS : y11.cell? ⟨jb, 4, none⟩ = some (.slice A12 ([a5]).length c12) ∧ y11.frozen? ⟨jb, 4, none⟩ = false := ⟨HJ.out.blk.cell 4, HJ.out.blk.frozen 4⟩
        have lj := HJ.out.blk.lt
        have hbd := Lib.hid (show ([a5]).length + 1 ≤ maxLen ∧ (([a5]).length + 1) * 16 ≤ 140737488355328 by have := hlI.out; simp only [maxLen, List.length_cons, List.length_nil] at *; omega)
        have HNE : Hid (jb ∉ [b]) := Lib.hid (by have := HJ.out.blk.ty.ne HP.out.ty (by decide); simpa using this)
        have HC : Hid (∀ W, Keeps [] y11 W → Calls Tryz.prog 32 #[.pointer (some ⟨b, 0, none⟩)] W fun e w' => ∃ s l' x', e = .returned (.string (bs s)) ∧ RdIs w' b l' x' ∧ Rl nameP q10 none s l' x' ∧ s.length ≤ 10 ∧ l'.length ≤ q10.length ∧ Keeps [b] W w') := Lib.hid (fun W z => rname_any W (HE.out.quiet z).fine (HE.out.fne hlo) (HP.out.keep z))
        have HIM2 := HIM
        go_region_law (first | (refine step_append_lies _ (by rfl) _ _ _ (by rfl) w0.heap.size 9 i0 _ 1 16 Tryz.underlying39 hi hz0 hz1 hz2 rfl (by decide) (.slice A12 ([a5]).length c12) ([a5]).length (strs ([a5])) (by rfl) ((HJ.out.rd HP.out hk6.undrew).o4.alloc _) ⟨w6.heap.size, 0, none⟩ 1 1 [.string (bs a12)] (by rfl) rfl (World.news_of_block (heap_alloc_new _ _)) (by simp [Value.oneCell']) (by decide) hbd.out.1 hbd.out.2 (by have := HK.out.size; have := hk6.size; have h9 : y11.drew.heap.size = y11.heap.size := rfl; simp; omega) _ rfl ?_; intro gw cap w7 hown7 hgrow7 hat7 hlt7; obtain ⟨fS7, fZ7⟩ := fld_grown hgrow7 (fld_alloc ⟨fS6, fZ6⟩ _) (fun e => (own_ty (HJ.out.rd HP.out hk6.undrew).o4 jb e).ne (HJ.out.rd HP.out hk6.undrew).blk.ty (by decide) rfl)) | (go_simp; go_at_call 32; refine (HC.out _ (Keeps.refl [] y11).drew).mono ?_; rintro e w6 ⟨a12, q12, x12, rfl, hp6, hr6, hs6, hll6, hk6⟩; obtain ⟨fS6, fZ6⟩ := fld_keeps hk6 fS HNE.out; have gl6 : jb < w6.heap.size := World.block_lt_of_cell? w6 ⟨jb, 4, none⟩ fS6))
        all_goals
         go_wp2
         first | go_end0 | refine bodyPost_ret (results_none rfl _ _ _) rfl ?_
         have hh := JbIs.app4r (HJ.out.rd HP.out hk6.undrew) hp6 (HK.out.trans hk6.undrew) rfl HJB.out hgrow7 rfl hown7 hat7 (by simp)
         exact ⟨rfl, RbOut.mk _ _ _ _ q12 x12 hh.1 hh.2.1 (HIM.out _ _ _ (Rl.bind (Q := fun a => fun r => .ok ((⟨at_, 7, outs, il9, [a5] ++ [a], [], ⟨[], zV⟩, ⟨[], zV⟩, retry⟩ : Jb), r)) hr6 (Rl.stay (fun _ => rfl)))) (Nat.le_trans hll6 HLQ.out) hh.2.2⟩
end Go.Proofs.YtnjjajanfedjiaaGreatDoor
