/- The reference's body, code 8. The reference's body, code 9. The reference's body. -/
import Derived.Test.YtnjjajanfedjiaaGreatDoorFrdM19
import Derived.Test.YtnjjajanfedjiaaGreatDoorFrdM20
import Derived.Test.YtnjjajanfedjiaaGreatDoorFrdM21
set_option linter.unusedSimpArgs false
set_option linter.unusedVariables false
namespace Go.Proofs.YtnjjajanfedjiaaGreatDoor
open Go.RowKit Go.BigFrame
attribute [local go_sem] bs_size bs_extract bs_append bs_toList
set_option maxRecDepth 100000 in
set_option maxHeartbeats 8000000 in
theorem rbody_8 {l : List Tk} {b jb lo : Nat} {v2 : Value} (at_ : Int) (outs : List Bs) (retry : Int) (w0 w : World) (hE : RB w0 lo) (hlo : lo ≤ b) (h : RdIs w b l none) (hk : Keeps [b] w0 w) (hjb : w0.heap.size ≤ jb) (hj : JbIs w w0.heap.size jb (job0 at_ outs retry) v2 (.slice none 0 0) (.slice none 0 0)) (hll : l.length ≤ 1000000) (hcc : wordIx (hdT l).text = 8) :
  Calls Tryz.prog 71 #[.pointer (some ⟨b, 0, none⟩), .pointer (some ⟨jb, 0, none⟩)] w fun e w' => e = .returned (.tuple #[]) ∧ RbOut (bodyP (job0 at_ outs retry)) l b jb w0 w' := by
 obtain ⟨i0, hi, hz0, hz1, hz2⟩ := info_parts sinf
 have HE0 := Lib.hid hE
 have HP := Lib.hid h
 have HK := Lib.hid hk
 have HJ : Hid (JbIs w w0.heap.size jb (⟨at_, 0, outs, [], [], [], ⟨[], zV⟩, ⟨[], zV⟩, retry⟩ : Jb) v2 (.slice none 0 0) (.slice none 0 0)) := Lib.hid hj
 have HE := Lib.hid (hE.one hlo hk)
 have HJB := Lib.hid hjb
 have HLL := Lib.hid hll
 have HLQ := Lib.hid (Nat.le_refl l.length)
 have htk : TkR (hdT l) := by obtain ⟨_, _, _, _, _, _, _, _, _, _, _, _, _, _, _, _, hh⟩ := h.open'; exact hh
 have HSW := Lib.hid (fun r hr => see_word htk r hr)
 have HCC := Lib.hid hcc
 have hlI : Hid (([] : List Bs).length ≤ 100) := Lib.hid (by simp)
 have hkd := word_kind htk (by rw [hcc]; decide)
 have HIM : Hid (∀ i l' x', Rl (fun r => nameP r >>= fun p0 => (fun r => mustP [98, 121] r >>= (fun r => nameP r >>= fun p2 => (fun r => oneP [[115, 117, 109], [109, 97, 120]] r >>= fun p3 => (fun r => nameP r >>= fun p4 => (fun r => .ok ((⟨at_, 8, outs, [] ++ [p0.1], [p2.1] ++ [p4.1], p3.1, ⟨[], zV⟩, ⟨[], zV⟩, retry⟩ : Jb), r)) p4.2) p3.2) p2.2)) p0.2) l.tail none i l' x' → Rl (bodyP (job0 at_ outs retry)) l none i l' x') := Lib.hid (fun i l' x' hq => Rl.shift (by
  unfold bodyP
  rw [hcc, if_neg (by rw [hkd]; decide)]
  rfl) hq)
 have htx : (hdT l).text = [103, 114, 111, 117, 112] := wordIx_text hcc (by decide)
 have hse : seeP [103, 114, 111, 117, 112] l = true := by
  unfold seeP
  rw [hkd, htx]
  rfl
 have HSE := Lib.hid hse
 have HTX := Lib.hid htx
 clear hE h hk hj hll hjb hcc htk hkd hse htx
 obtain ⟨mx, hmx⟩ := HE.out.renv.mlen
 have HSP := Lib.hid (split_words mx w hmx)
 clear hmx
 go_enter Tryz.func71, Tryz.ntmps71
 go_wp2_with fail
 refine HSP.out.mono ?_
 rintro ev w1 ⟨rfl, rfl⟩
 have hbk := Blk.new w 9 (strs refWords).toArray
 have hal : Keeps [] w (w.alloc (.cells (strs refWords).toArray 9)) := (Keeps.refl _ _).alloc _
 have HP' := Lib.hid (HP.out.keep hal)
 have HJ' := Lib.hid (HJ.out.keep hal)
 have HK' := Lib.hid (HK.out.trans hal.of_nil)
 obtain ⟨B, hB⟩ : ∃ B, w.heap.size = B := ⟨_, rfl⟩
 have HBB : Hid (B ≠ b ∧ jb ≠ B) := Lib.hid (by have := HP.out.lt; have := HJ.out.blk.lt; omega)
 rw [hB] at hbk ⊢
 obtain ⟨w1, hw1⟩ : ∃ z, w.alloc (.cells (strs refWords).toArray 9) = z := ⟨_, rfl⟩
 rw [hw1] at hbk HP' HJ' HK' ⊢
 have HBK := Lib.hid hbk
 clear hbk hal hB hw1 HP HJ HK HE HSP
 go_wp2_with fail
 go_loopw [8] (fun i wr => ∃ r : Nat, r ≤ 9 ∧ i = .int .i64 r ∧ Hid (RdIs wr b l none) ∧ Hid (JbIs wr w0.heap.size jb (⟨at_, (codeR 8 r : Nat), outs, [], [], [], ⟨[], zV⟩, ⟨[], zV⟩, retry⟩ : Jb) v2 (.slice none 0 0) (.slice none 0 0)) ∧ Hid (Blk wr B 9 (strs refWords).toArray) ∧ Hid (Keeps [b] w0 wr)) (fun i _ => 9 - (intOf i).toNat)
 case atStart => exact ⟨0, Nat.zero_le _, rfl, HP', HJ', HBK, HK'⟩
 case round =>
  clear HP' HJ' HK' HBK
  obtain ⟨r, hr, rfl, HP, HJ, HBK, HK⟩ := hrel
  have HE := Lib.hid (HE0.out.one hlo HK.out)
  by_cases hrl : r < 9
  ·have hri : (r : Int) < 9 := by omega
   have hr9 : r < refWords.length := hrl
   have hcl : wr.cell? ⟨B, r, none⟩ = some (.string (bs refWords[r])) := by
    rw [HBK.out.cell r]
    simp [strs, List.getElem?_eq_getElem hr9]
   have lb := HBK.out.lt
   have hS := rsee_any refWords[r] wr HE.out.fine HP.out
   rw [HSW.out r hr9, HCC.out] at hS
   obtain ⟨wd, hwd⟩ : ∃ wd, refWords[r] = wd := ⟨_, rfl⟩
   rw [hwd] at hS hcl
   clear hwd hr9
   by_cases hc : (8 : Nat) = r + 1
   ·rw [decide_eq_true hc] at hS
    have HS := Lib.hid hS
    have HCY : Hid (((r : Int) + 1) = (codeR 8 (r + 1) : Nat)) := Lib.hid (by rw [codeR_yes hc]; omega)
    clear hS hc
    go_wp2_with fail
    refine HS.out.mono ?_
    rintro ev w2 ⟨hev, hk⟩
    have hev' : ev = .returned (.bool true) := hev
    subst hev'
    have HP2 := Lib.hid (HP.out.keep hk)
    have HJ2 := Lib.hid (HJ.out.keep hk)
    have HB2 := Lib.hid (HBK.out.keep hk (by simp))
    have HK2 := Lib.hid (HK.out.trans hk.of_nil)
    have jf1 := HJ2.out.blk.frozen 1
    have jc1 : w2.cell? ⟨jb, 1, none⟩ = some (.int .i64 (codeR 8 r : Nat)) := HJ2.out.blk.cell 1
    have lj := HJ2.out.blk.lt
    clear hev hk HP HJ HBK HK HS hcl lb
    have hkb : Keeps [jb] w2 (w2.setCell ⟨jb, 1, none⟩ (.int .i64 ((r : Int) + 1))) := (Keeps.refl _ _).setCell (.inl (by simp)) _
    have HJ3 : Hid (JbIs (w2.setCell ⟨jb, 1, none⟩ (.int .i64 ((r : Int) + 1))) w0.heap.size jb (⟨at_, (codeR 8 (r + 1) : Nat), outs, [], [], [], ⟨[], zV⟩, ⟨[], zV⟩, retry⟩ : Jb) v2 (.slice none 0 0) (.slice none 0 0)) := Lib.hid (HJ2.out.box hkb ((HJ2.out.blk.set 1 (.int .i64 ((r : Int) + 1))).congr (by rw [HCY.out]; rfl)) rfl rfl rfl)
    have HP3 := Lib.hid (HP2.out.box HJ2.out hkb)
    have HK3 := Lib.hid (HK2.out.box HJB.out hkb)
    have HB3 := Lib.hid (HB2.out.far (p := ⟨jb, 1, none⟩) (fun e => HBB.out.2 e.symm) (.int .i64 ((r : Int) + 1)))
    clear hkb
    go_wp2
    go_roundw
    case rel => exact ⟨r + 1, by omega, by go_num, HP3, HJ3, HB3, HK3⟩
    case measure => simp [intOf]; omega
   ·rw [decide_eq_false hc] at hS
    have HS := Lib.hid hS
    have HCN : Hid (codeR 8 (r + 1) = codeR 8 r) := Lib.hid (codeR_no hc)
    clear hS hc
    go_wp2_with fail
    refine HS.out.mono ?_
    rintro ev w2 ⟨hev, hk⟩
    have hev' : ev = .returned (.bool false) := hev
    subst hev'
    have HP2 := Lib.hid (HP.out.keep hk)
    have HJ2 := Lib.hid (HJ.out.keep hk)
    have HB2 := Lib.hid (HBK.out.keep hk (by simp))
    have HK2 := Lib.hid (HK.out.trans hk.of_nil)
    clear hev hk HP HJ HBK HK HS hcl lb
    go_wp2
    go_roundw
    case rel => exact ⟨r + 1, by omega, by go_num, HP2, by rw [HCN.out]; exact HJ2, HB2, HK2⟩
    case measure => simp [intOf]; omega
  ·obtain rfl : r = 9 := by omega
   have HJ' : Hid (JbIs wr w0.heap.size jb (⟨at_, 8, outs, [], [], [], ⟨[], zV⟩, ⟨[], zV⟩, retry⟩ : Jb) v2 (.slice none 0 0) (.slice none 0 0)) := Lib.hid HJ.out
   clear HJ HBK hr hrl
   have HJ := HJ'
   clear HJ'
   have jc1 : wr.cell? ⟨jb, 1, none⟩ = some (.int .i64 8) := HJ.out.blk.cell 1
   have lj := HJ.out.blk.lt
   obtain ⟨g, o, c, c0, c1, c2, -, lb, lg, -, hn, hc, hc2, k0, k1, k2, -⟩ := HP.out.open'
   rw [HTX.out] at k1
   have hn2 : (0 : Int) < (l.length : Int) := by omega
   have HC := Lib.hid (rmust_any [103, 114, 111, 117, 112] wr HE.out.fine (HE.out.fne hlo) HP.out)
   go_wp2_with fail
   refine HC.out.mono ?_
   rintro ev y1 ⟨rfl, ⟨q1, x1, hp, hr, hll'⟩, hk⟩
   obtain ⟨rfl, rfl⟩ := must_seen hr HSE.out
   clear hr c0 c1 c2 lb lg hn hc hc2 k0 k1 k2 hn2 jc1 lj HSE HTX HSW HCC
   have HJ' := Lib.hid (HJ.out.rd HP.out hk)
   have HK' := Lib.hid (HK.out.trans hk)
   have HE' := Lib.hid (HE.out.one hlo hk)
   have HP' := Lib.hid hp
   clear HJ HK HE HP hk hp HC
   have HJ := HJ'
   have HK := HK'
   have HE := HE'
   have HP := HP'
   clear HJ' HK' HE' HP'
   have HLR := Lib.hid (Nat.le_trans hll' HLQ.out)
   clear hll' HLQ
   have HLQ := HLR
   clear HLR
   obtain ⟨q1, hq1⟩ : ∃ q1, l.tail = q1 := ⟨_, rfl⟩
   rw [hq1] at HP HIM HLQ
   clear hq1
   go_upto_region 9 with (fail)
   have fS : y1.cell? ⟨jb, 3, none⟩ = some (.slice none 0 0) ∧ y1.frozen? ⟨jb, 3, none⟩ = false := ⟨HJ.out.blk.cell 3, HJ.out.blk.frozen 3⟩
   have lj := HJ.out.blk.lt
   have hbd := Lib.hid (show (([] : List Bs)).length + 1 ≤ maxLen ∧ ((([] : List Bs)).length + 1) * 16 ≤ 140737488355328 by have := hlI.out; simp only [maxLen, List.length_cons, List.length_nil] at *; omega)
   have HNE : Hid (jb ∉ [b]) := Lib.hid (by have := HJ.out.blk.ty.ne HP.out.ty (by decide); simpa using this)
   have HC : Hid (∀ W, Keeps [] y1 W → Calls Tryz.prog 32 #[.pointer (some ⟨b, 0, none⟩)] W fun e w' => ∃ s l' x', e = .returned (.string (bs s)) ∧ RdIs w' b l' x' ∧ Rl nameP q1 none s l' x' ∧ s.length ≤ 10 ∧ l'.length ≤ q1.length ∧ Keeps [b] W w') := Lib.hid (fun W z => rname_any W (HE.out.quiet z).fine (HE.out.fne hlo) (HP.out.keep z))
   go_cut [] (fun wx => ∃ a2 q2 x2 vz2, JbIs wx w0.heap.size jb (⟨at_, 8, outs, [] ++ [a2], [], [], ⟨[], zV⟩, ⟨[], zV⟩, retry⟩ : Jb) v2 vz2 (.slice none 0 0) ∧ RdIs wx b q2 x2 ∧ Rl nameP q1 none a2 q2 x2 ∧ q2.length ≤ q1.length ∧ Keeps [b] w0 wx)
   case first =>
    go_region_law (first | (refine step_append_lies _ (by rfl) _ _ _ (by rfl) w0.heap.size 9 i0 _ 1 16 Tryz.underlying39 hi hz0 hz1 hz2 rfl (by decide) (.slice none 0 0) (([] : List Bs)).length (strs (([] : List Bs))) (by rfl) ((HJ.out.rd HP.out hk6.undrew).o3.alloc _) ⟨w6.heap.size, 0, none⟩ 1 1 [.string (bs a2)] (by rfl) rfl (World.news_of_block (heap_alloc_new _ _)) (by simp [Value.oneCell']) (by decide) hbd.out.1 hbd.out.2 (by have := HK.out.size; have := hk6.size; have h9 : y1.drew.heap.size = y1.heap.size := rfl; simp; omega) _ rfl ?_; intro gw cap w7 hown7 hgrow7 hat7 hlt7; obtain ⟨fS7, fZ7⟩ := fld_grown hgrow7 (fld_alloc ⟨fS6, fZ6⟩ _) (fun e => (own_ty (HJ.out.rd HP.out hk6.undrew).o3 jb e).ne (HJ.out.rd HP.out hk6.undrew).blk.ty (by decide) rfl)) | (go_simp; go_at_call 32; refine (HC.out _ (Keeps.refl [] y1).drew).mono ?_; rintro e w6 ⟨a2, q2, x2, rfl, hp6, hr6, hs6, hll6, hk6⟩; obtain ⟨fS6, fZ6⟩ := fld_keeps hk6 fS HNE.out; have gl6 : jb < w6.heap.size := World.block_lt_of_cell? w6 ⟨jb, 3, none⟩ fS6))
    all_goals
     go_wp2
     go_meet
     have hh := JbIs.app3r (HJ.out.rd HP.out hk6.undrew) hp6 (HK.out.trans hk6.undrew) rfl HJB.out hgrow7 rfl hown7 hat7 (by simp)
     exact ⟨a2, q2, x2, _, hh.1, hh.2.1, hr6, hll6, hh.2.2⟩
   case rest =>
    obtain ⟨a2, q2, x2, vz2, hj, hp, hr, hll', hk⟩ := hcut
    obtain ⟨y2, rfl⟩ : ∃ y : World, y = wc := ⟨_, rfl⟩
    clear HP HJ HK HE HC fS lj hbd HNE
    have HP := Lib.hid hp
    have HJ := Lib.hid hj
    have HK := Lib.hid hk
    have HE := Lib.hid (HE0.out.one hlo hk)
    clear hp hj hk
    have HIM' : Hid (∀ i l' x', Rl (fun r => mustP [98, 121] r >>= (fun r => nameP r >>= fun p2 => (fun r => oneP [[115, 117, 109], [109, 97, 120]] r >>= fun p3 => (fun r => nameP r >>= fun p4 => (fun r => .ok ((⟨at_, 8, outs, [] ++ [a2], [p2.1] ++ [p4.1], p3.1, ⟨[], zV⟩, ⟨[], zV⟩, retry⟩ : Jb), r)) p4.2) p3.2) p2.2)) q2 x2 i l' x' → Rl (bodyP (job0 at_ outs retry)) l none i l' x') := Lib.hid (fun i l' x' hq => HIM.out i l' x' (Rl.bind (Q := fun a => fun r => mustP [98, 121] r >>= (fun r => nameP r >>= fun p2 => (fun r => oneP [[115, 117, 109], [109, 97, 120]] r >>= fun p3 => (fun r => nameP r >>= fun p4 => (fun r => .ok ((⟨at_, 8, outs, [] ++ [a], [p2.1] ++ [p4.1], p3.1, ⟨[], zV⟩, ⟨[], zV⟩, retry⟩ : Jb), r)) p4.2) p3.2) p2.2)) hr hq))
    clear HIM hr
    have HIM := HIM'
    clear HIM'
    have HLR := Lib.hid (Nat.le_trans hll' HLQ.out)
    clear hll' HLQ
    have HLQ := HLR
    clear HLR
    have HLN : Hid (([] ++ [a2]).length ≤ 101) := Lib.hid (by have := hlI.out; simp only [List.length_append, List.length_cons, List.length_nil] at *; omega)
    obtain ⟨il2, hil⟩ : ∃ il, [] ++ [a2] = il := ⟨_, rfl⟩
    rw [hil] at HJ HIM HLN
    clear hil hlI
    have hlI := HLN
    clear HLN
    have jc1 : y2.cell? ⟨jb, 1, none⟩ = some (.int .i64 8) := HJ.out.blk.cell 1
    have lj := HJ.out.blk.lt
    have HC := Lib.hid (rmust_any [98, 121] y2 HE.out.fine (HE.out.fne hlo) HP.out)
    go_wp2_with fail
    refine HC.out.mono ?_
    rintro ev y3 ⟨rfl, ⟨q3, x3, hp, hr, hll'⟩, hk⟩
    have HIM' : Hid (∀ i l' x', Rl (fun r => nameP r >>= fun p2 => (fun r => oneP [[115, 117, 109], [109, 97, 120]] r >>= fun p3 => (fun r => nameP r >>= fun p4 => (fun r => .ok ((⟨at_, 8, outs, il2, [p2.1] ++ [p4.1], p3.1, ⟨[], zV⟩, ⟨[], zV⟩, retry⟩ : Jb), r)) p4.2) p3.2) p2.2) q3 x3 i l' x' → Rl (bodyP (job0 at_ outs retry)) l none i l' x') := Lib.hid (fun i l' x' hq => HIM.out i l' x' (Rl.must hr hq))
    clear HIM hr
    have HIM := HIM'
    clear HIM'
    have HJ' := Lib.hid (HJ.out.rd HP.out hk)
    have HK' := Lib.hid (HK.out.trans hk)
    have HE' := Lib.hid (HE.out.one hlo hk)
    have HP' := Lib.hid hp
    clear HJ HK HE HP hk hp HC
    have HJ := HJ'
    have HK := HK'
    have HE := HE'
    have HP := HP'
    clear HJ' HK' HE' HP'
    have HLR := Lib.hid (Nat.le_trans hll' HLQ.out)
    clear hll' HLQ
    have HLQ := HLR
    clear HLR
    clear jc1 lj
    cases x3 with
    | some y =>
     have HD : Hid (∀ i l', Rl (bodyP (job0 at_ outs retry)) l none i l' (some y)) := Lib.hid (fun i l' => HIM.out i l' _ rfl)
     clear HIM
     have HC := Lib.hid (ok_any y3 HE.out.fine HP.out)
     go_wp2_with fail
     refine HC.out.mono ?_
     rintro ev y4 ⟨hev, hk⟩
     have hev' : ev = .returned (.bool false) := hev
     subst hev'
     clear hev
     have HJ' := Lib.hid (HJ.out.keep hk)
     have HK' := Lib.hid (HK.out.trans hk.of_nil)
     have HE' := Lib.hid (HE.out.quiet hk)
     have HP' := Lib.hid (HP.out.keep hk)
     clear HJ HK HE HP hk HC
     have HJ := HJ'
     have HK := HK'
     have HE := HE'
     have HP := HP'
     clear HJ' HK' HE' HP'
     have HC := Lib.hid (ok_any y4 HE.out.fine HP.out)
     go_wp2_with fail
     refine HC.out.mono ?_
     rintro ev y5 ⟨hev, hk⟩
     have hev' : ev = .returned (.bool false) := hev
     subst hev'
     clear hev
     have HJ' := Lib.hid (HJ.out.keep hk)
     have HK' := Lib.hid (HK.out.trans hk.of_nil)
     have HE' := Lib.hid (HE.out.quiet hk)
     have HP' := Lib.hid (HP.out.keep hk)
     clear HJ HK HE HP hk HC
     have HJ := HJ'
     have HK := HK'
     have HE := HE'
     have HP := HP'
     clear HJ' HK' HE' HP'
     have HFIN : Hid (Rl (bodyP (job0 at_ outs retry)) l none (⟨at_, 8, outs, il2, [], [], ⟨[], zV⟩, ⟨[], zV⟩, retry⟩ : Jb) q3 (some y)) := Lib.hid (HD.out _ _)
     go_wp2
     first | go_end0 | refine bodyPost_ret (results_none rfl _ _ _) rfl ?_
     exact ⟨rfl, RbOut.mk (⟨at_, 8, outs, il2, [], [], ⟨[], zV⟩, ⟨[], zV⟩, retry⟩ : Jb) _ _ _ q3 (some y) HJ.out HP.out HFIN.out HLQ.out HK.out⟩
    | none =>
     have HC := Lib.hid (ok_any y3 HE.out.fine HP.out)
     go_wp2_with fail
     refine HC.out.mono ?_
     rintro ev y4 ⟨hev, hk⟩
     have hev' : ev = .returned (.bool true) := hev
     subst hev'
     clear hev
     have HJ' := Lib.hid (HJ.out.keep hk)
     have HK' := Lib.hid (HK.out.trans hk.of_nil)
     have HE' := Lib.hid (HE.out.quiet hk)
     have HP' := Lib.hid (HP.out.keep hk)
     clear HJ HK HE HP hk HC
     have HJ := HJ'
     have HK := HK'
     have HE := HE'
     have HP := HP'
     clear HJ' HK' HE' HP'
     have HC := Lib.hid (rname_any y4 HE.out.fine (HE.out.fne hlo) HP.out)
     go_wp2_with fail
     refine HC.out.mono ?_
     rintro ev y5 ⟨a5, q5, x5, rfl, hp, hr, hs, hll', hk⟩
     clear hs
     have HIM' : Hid (∀ i l' x', Rl (fun r => oneP [[115, 117, 109], [109, 97, 120]] r >>= fun p3 => (fun r => nameP r >>= fun p4 => (fun r => .ok ((⟨at_, 8, outs, il2, [a5] ++ [p4.1], p3.1, ⟨[], zV⟩, ⟨[], zV⟩, retry⟩ : Jb), r)) p4.2) p3.2) q5 x5 i l' x' → Rl (bodyP (job0 at_ outs retry)) l none i l' x') := Lib.hid (fun i l' x' hq => HIM.out i l' x' (Rl.bind (Q := fun a => fun r => oneP [[115, 117, 109], [109, 97, 120]] r >>= fun p3 => (fun r => nameP r >>= fun p4 => (fun r => .ok ((⟨at_, 8, outs, il2, [a] ++ [p4.1], p3.1, ⟨[], zV⟩, ⟨[], zV⟩, retry⟩ : Jb), r)) p4.2) p3.2) hr hq))
     clear HIM hr
     have HIM := HIM'
     clear HIM'
     have HJ' := Lib.hid (HJ.out.rd HP.out hk)
     have HK' := Lib.hid (HK.out.trans hk)
     have HE' := Lib.hid (HE.out.one hlo hk)
     have HP' := Lib.hid hp
     clear HJ HK HE HP hk hp HC
     have HJ := HJ'
     have HK := HK'
     have HE := HE'
     have HP := HP'
     clear HJ' HK' HE' HP'
     have HLR := Lib.hid (Nat.le_trans hll' HLQ.out)
     clear hll' HLQ
     have HLQ := HLR
     clear HLR
     have jf4 := HJ.out.blk.frozen 4
     have jc4 : y5.cell? ⟨jb, 4, none⟩ = some ((.slice none 0 0)) := HJ.out.blk.cell 4
     have lj := HJ.out.blk.lt
     have hov : (y5.alloc (.cells #[.string (bs a5)] 9)).ownsRow w0.heap.size 9 1 (.slice (some ⟨y5.heap.size, 0, none⟩) 1 1) [a5].length (strs [a5]) := own_lit (Blk.new y5 9 #[.string (bs a5)]) HK.out.size rfl (by decide)
     have hA2 : Apart (v2) (.slice (some ⟨y5.heap.size, 0, none⟩) 1 1) := Apart.new HJ.out.o2 (fun g hg => by simp [Value.ownBlock] at hg; omega)
     have hA3 : Apart (vz2) (.slice (some ⟨y5.heap.size, 0, none⟩) 1 1) := Apart.new HJ.out.o3 (fun g hg => by simp [Value.ownBlock] at hg; omega)
     have hal : Keeps [] y5 (y5.alloc (.cells #[.string (bs a5)] 9)) := (Keeps.refl _ _).alloc _
     have hkb : Keeps [jb] (y5.alloc (.cells #[.string (bs a5)] 9)) ((y5.alloc (.cells #[.string (bs a5)] 9)).setCell ⟨jb, 4, none⟩ (.slice (some ⟨y5.heap.size, 0, none⟩) 1 1)) := (Keeps.refl _ _).setCell (.inl (by simp)) _
     have hj' := (HJ.out.keep hal).put4 hov hA2 hA3
     have hp' := (HP.out.keep hal).box (HJ.out.keep hal) hkb
     have hk' := Keeps.box (HK.out.trans hal.of_nil) HJB.out hkb
     rw [World.setCell_alloc_past (w := y5) (.cells #[.string (bs a5)] 9) jb 4 (.slice (some ⟨y5.heap.size, 0, none⟩) 1 1) lj] at hj' hp' hk'
     have HJ' := Lib.hid hj'
     have HP' := Lib.hid hp'
     have HK' := Lib.hid hk'
     have HE' := Lib.hid (HE0.out.one hlo hk')
     clear hov hA2 hA3 hal hkb hj' hp' hk'
     go_upto_region 52 with (fail)
     obtain ⟨y6, hy⟩ : ∃ x, ((y5.setCell ⟨jb, 4, none⟩ (.slice (some ⟨y5.heap.size, 0, none⟩) 1 1)).alloc (.cells #[.string (bs a5)] 9)) = x := ⟨_, rfl⟩
     rw [hy] at HJ' HP' HK' HE' ⊢
     obtain ⟨hs6, hsz⟩ : ∃ n, y5.heap.size = n := ⟨_, rfl⟩
     rw [hsz] at HJ'
     try rw [hsz]
     clear hy hsz jf4 jc4 lj HJ HP HK HE
     have HJ := HJ'
     have HP := HP'
     have HK := HK'
     have HE := HE'
     clear HJ' HP' HK' HE'
     obtain ⟨vl6, hvl⟩ : ∃ v, Value.slice (some ⟨hs6, 0, none⟩) 1 1 = v := ⟨_, rfl⟩
     rw [hvl] at HJ
     clear hvl
     have HC := Lib.hid (rmark_any [115, 117, 109, 32, 109, 97, 120] [[115, 117, 109], [109, 97, 120]] (by decide) (by decide) (by decide) (by decide) y6 HE.out.renv (HE.out.fne hlo) (HE.out.mne hlo) HP.out)
     go_wp2_with fail
     refine HC.out.mono ?_
     rintro ev y7 ⟨a7, q7, x7, rfl, hp, hr, hs, hll', hk⟩
     clear hs
     have HIM' : Hid (∀ i l' x', Rl (fun r => nameP r >>= fun p4 => (fun r => .ok ((⟨at_, 8, outs, il2, [a5] ++ [p4.1], a7, ⟨[], zV⟩, ⟨[], zV⟩, retry⟩ : Jb), r)) p4.2) q7 x7 i l' x' → Rl (bodyP (job0 at_ outs retry)) l none i l' x') := Lib.hid (fun i l' x' hq => HIM.out i l' x' (Rl.bind (Q := fun a => fun r => nameP r >>= fun p4 => (fun r => .ok ((⟨at_, 8, outs, il2, [a5] ++ [p4.1], a, ⟨[], zV⟩, ⟨[], zV⟩, retry⟩ : Jb), r)) p4.2) hr hq))
     clear HIM hr
     have HIM := HIM'
     clear HIM'
     have HJ' := Lib.hid (HJ.out.rd HP.out hk)
     have HK' := Lib.hid (HK.out.trans hk)
     have HE' := Lib.hid (HE.out.one hlo hk)
     have HP' := Lib.hid hp
     clear HJ HK HE HP hk hp HC
     have HJ := HJ'
     have HK := HK'
     have HE := HE'
     have HP := HP'
     clear HJ' HK' HE' HP'
     have HLR := Lib.hid (Nat.le_trans hll' HLQ.out)
     clear hll' HLQ
     have HLQ := HLR
     clear HLR
     have jf5 := HJ.out.blk.frozen 5
     have jc5 : y7.cell? ⟨jb, 5, none⟩ = some (.string (bs [])) := HJ.out.blk.cell 5
     have lj := HJ.out.blk.lt
     have hkb : Keeps [jb] y7 (y7.setCell ⟨jb, 5, none⟩ (.string (bs a7))) := (Keeps.refl _ _).setCell (.inl (by simp)) _
     have HJ' : Hid (JbIs (y7.setCell ⟨jb, 5, none⟩ (.string (bs a7))) w0.heap.size jb (⟨at_, 8, outs, il2, [a5], a7, ⟨[], zV⟩, ⟨[], zV⟩, retry⟩ : Jb) v2 vz2 vl6) := Lib.hid (HJ.out.box hkb ((HJ.out.blk.set 5 (.string (bs a7))).congr (by rfl)) rfl rfl rfl)
     have HP' := Lib.hid (HP.out.box HJ.out hkb)
     have HK' := Lib.hid (HK.out.box HJB.out hkb)
     have HE' := Lib.hid (HE0.out.one hlo HK'.out)
     clear hkb
     go_upto_region 53 with (fail)
     obtain ⟨y8, hy⟩ : ∃ x, (y7.setCell ⟨jb, 5, none⟩ (.string (bs a7))) = x := ⟨_, rfl⟩
     rw [hy] at HJ' HP' HK' HE' ⊢
     clear hy jf5 jc5 lj HJ HP HK HE
     have HJ := HJ'
     have HP := HP'
     have HK := HK'
     have HE := HE'
     clear HJ' HP' HK' HE'
     cases x7 with
     | some y =>
      have HD : Hid (∀ i l', Rl (bodyP (job0 at_ outs retry)) l none i l' (some y)) := Lib.hid (fun i l' => HIM.out i l' _ rfl)
      clear HIM
      have HC := Lib.hid (ok_any y8 HE.out.fine HP.out)
      go_wp2_with fail
      refine HC.out.mono ?_
      rintro ev y9 ⟨hev, hk⟩
      have hev' : ev = .returned (.bool false) := hev
      subst hev'
      clear hev
      have HJ' := Lib.hid (HJ.out.keep hk)
      have HK' := Lib.hid (HK.out.trans hk.of_nil)
      have HE' := Lib.hid (HE.out.quiet hk)
      have HP' := Lib.hid (HP.out.keep hk)
      clear HJ HK HE HP hk HC
      have HJ := HJ'
      have HK := HK'
      have HE := HE'
      have HP := HP'
      clear HJ' HK' HE' HP'
      have HFIN : Hid (Rl (bodyP (job0 at_ outs retry)) l none (⟨at_, 8, outs, il2, [a5], a7, ⟨[], zV⟩, ⟨[], zV⟩, retry⟩ : Jb) q7 (some y)) := Lib.hid (HD.out _ _)
      go_wp2
      first | go_end0 | refine bodyPost_ret (results_none rfl _ _ _) rfl ?_
      exact ⟨rfl, RbOut.mk (⟨at_, 8, outs, il2, [a5], a7, ⟨[], zV⟩, ⟨[], zV⟩, retry⟩ : Jb) _ _ _ q7 (some y) HJ.out HP.out HFIN.out HLQ.out HK.out⟩
     | none =>
      have HC := Lib.hid (ok_any y8 HE.out.fine HP.out)
      go_wp2_with fail
      refine HC.out.mono ?_
      rintro ev y9 ⟨hev, hk⟩
      have hev' : ev = .returned (.bool true) := hev
      subst hev'
      clear hev
      have HJ' := Lib.hid (HJ.out.keep hk)
      have HK' := Lib.hid (HK.out.trans hk.of_nil)
      have HE' := Lib.hid (HE.out.quiet hk)
      have HP' := Lib.hid (HP.out.keep hk)
      clear HJ HK HE HP hk HC
      have HJ := HJ'
      have HK := HK'
      have HE := HE'
      have HP := HP'
      clear HJ' HK' HE' HP'
      go_upto_region 54 with (fail)
      obtain ⟨A10, c10, hv, -⟩ := own_form HJ.out.o4
      subst hv
      have fS : y9.cell? ⟨jb, 4, none⟩ = some (.slice A10 ([a5]).length c10) ∧ y9.frozen? ⟨jb, 4, none⟩ = false := ⟨HJ.out.blk.cell 4, HJ.out.blk.frozen 4⟩
      have lj := HJ.out.blk.lt
      have hbd := Lib.hid (show ([a5]).length + 1 ≤ maxLen ∧ (([a5]).length + 1) * 16 ≤ 140737488355328 by have := hlI.out; simp only [maxLen, List.length_cons, List.length_nil] at *; omega)
      have HNE : Hid (jb ∉ [b]) := Lib.hid (by have := HJ.out.blk.ty.ne HP.out.ty (by decide); simpa using this)
      have HC : Hid (∀ W, Keeps [] y9 W → Calls Tryz.prog 32 #[.pointer (some ⟨b, 0, none⟩)] W fun e w' => ∃ s l' x', e = .returned (.string (bs s)) ∧ RdIs w' b l' x' ∧ Rl nameP q7 none s l' x' ∧ s.length ≤ 10 ∧ l'.length ≤ q7.length ∧ Keeps [b] W w') := Lib.hid (fun W z => rname_any W (HE.out.quiet z).fine (HE.out.fne hlo) (HP.out.keep z))
      have HIM2 := HIM
      go_region_law (first | (refine step_append_lies _ (by rfl) _ _ _ (by rfl) w0.heap.size 9 i0 _ 1 16 Tryz.underlying39 hi hz0 hz1 hz2 rfl (by decide) (.slice A10 ([a5]).length c10) ([a5]).length (strs ([a5])) (by rfl) ((HJ.out.rd HP.out hk6.undrew).o4.alloc _) ⟨w6.heap.size, 0, none⟩ 1 1 [.string (bs a10)] (by rfl) rfl (World.news_of_block (heap_alloc_new _ _)) (by simp [Value.oneCell']) (by decide) hbd.out.1 hbd.out.2 (by have := HK.out.size; have := hk6.size; have h9 : y9.drew.heap.size = y9.heap.size := rfl; simp; omega) _ rfl ?_; intro gw cap w7 hown7 hgrow7 hat7 hlt7; obtain ⟨fS7, fZ7⟩ := fld_grown hgrow7 (fld_alloc ⟨fS6, fZ6⟩ _) (fun e => (own_ty (HJ.out.rd HP.out hk6.undrew).o4 jb e).ne (HJ.out.rd HP.out hk6.undrew).blk.ty (by decide) rfl)) | (go_simp; go_at_call 32; refine (HC.out _ (Keeps.refl [] y9).drew).mono ?_; rintro e w6 ⟨a10, q10, x10, rfl, hp6, hr6, hs6, hll6, hk6⟩; obtain ⟨fS6, fZ6⟩ := fld_keeps hk6 fS HNE.out; have gl6 : jb < w6.heap.size := World.block_lt_of_cell? w6 ⟨jb, 4, none⟩ fS6))
      all_goals
       go_wp2
       first | go_end0 | refine bodyPost_ret (results_none rfl _ _ _) rfl ?_
       have hh := JbIs.app4r (HJ.out.rd HP.out hk6.undrew) hp6 (HK.out.trans hk6.undrew) rfl HJB.out hgrow7 rfl hown7 hat7 (by simp)
       exact ⟨rfl, RbOut.mk _ _ _ _ q10 x10 hh.1 hh.2.1 (HIM.out _ _ _ (Rl.bind (Q := fun a => fun r => .ok ((⟨at_, 8, outs, il2, [a5] ++ [a], a7, ⟨[], zV⟩, ⟨[], zV⟩, retry⟩ : Jb), r)) hr6 (Rl.stay (fun _ => rfl)))) (Nat.le_trans hll6 HLQ.out) hh.2.2⟩
end Go.Proofs.YtnjjajanfedjiaaGreatDoor
namespace Go.Proofs.YtnjjajanfedjiaaGreatDoor
open Go.RowKit Go.BigFrame
attribute [local go_sem] bs_size bs_extract bs_append bs_toList
set_option maxRecDepth 100000 in
set_option maxHeartbeats 8000000 in
theorem rbody_9 {l : List Tk} {b jb lo : Nat} {v2 : Value} (at_ : Int) (outs : List Bs) (retry : Int) (w0 w : World) (hE : RB w0 lo) (hlo : lo ≤ b) (h : RdIs w b l none) (hk : Keeps [b] w0 w) (hjb : w0.heap.size ≤ jb) (hj : JbIs w w0.heap.size jb (job0 at_ outs retry) v2 (.slice none 0 0) (.slice none 0 0)) (hll : l.length ≤ 1000000) (hcc : wordIx (hdT l).text = 9) :
  Calls Tryz.prog 71 #[.pointer (some ⟨b, 0, none⟩), .pointer (some ⟨jb, 0, none⟩)] w fun e w' => e = .returned (.tuple #[]) ∧ RbOut (bodyP (job0 at_ outs retry)) l b jb w0 w' := by
 obtain ⟨i0, hi, hz0, hz1, hz2⟩ := info_parts sinf
 have HE0 := Lib.hid hE
 have HP := Lib.hid h
 have HK := Lib.hid hk
 have HJ : Hid (JbIs w w0.heap.size jb (⟨at_, 0, outs, [], [], [], ⟨[], zV⟩, ⟨[], zV⟩, retry⟩ : Jb) v2 (.slice none 0 0) (.slice none 0 0)) := Lib.hid hj
 have HE := Lib.hid (hE.one hlo hk)
 have HJB := Lib.hid hjb
 have HLL := Lib.hid hll
 have HLQ := Lib.hid (Nat.le_refl l.length)
 have htk : TkR (hdT l) := by obtain ⟨_, _, _, _, _, _, _, _, _, _, _, _, _, _, _, _, hh⟩ := h.open'; exact hh
 have HSW := Lib.hid (fun r hr => see_word htk r hr)
 have HCC := Lib.hid hcc
 have hlI : Hid (([] : List Bs).length ≤ 100) := Lib.hid (by simp)
 have hkd := word_kind htk (by rw [hcc]; decide)
 have HIM : Hid (∀ i l' x', Rl (fun r => nameP r >>= fun p0 => (fun r => mustP [119, 104, 101, 114, 101] r >>= (fun r => nameP r >>= fun p2 => (fun r => oneP cmpL r >>= fun p3 => (fun r => argP r >>= fun p4 => (fun r => .ok ((⟨at_, 9, outs, [] ++ [p0.1], [], p3.1, ⟨p2.1, zV⟩, p4.1, retry⟩ : Jb), r)) p4.2) p3.2) p2.2)) p0.2) l.tail none i l' x' → Rl (bodyP (job0 at_ outs retry)) l none i l' x') := Lib.hid (fun i l' x' hq => Rl.shift (by
  unfold bodyP
  rw [hcc, if_neg (by rw [hkd]; decide)]
  rfl) hq)
 have htx : (hdT l).text = [115, 112, 108, 105, 116] := wordIx_text hcc (by decide)
 have hse : seeP [115, 112, 108, 105, 116] l = true := by
  unfold seeP
  rw [hkd, htx]
  rfl
 have HSE := Lib.hid hse
 have HTX := Lib.hid htx
 clear hE h hk hj hll hjb hcc htk hkd hse htx
 obtain ⟨mx, hmx⟩ := HE.out.renv.mlen
 have HSP := Lib.hid (split_words mx w hmx)
 clear hmx
 go_enter Tryz.func71, Tryz.ntmps71
 go_wp2_with fail
 refine HSP.out.mono ?_
 rintro ev w1 ⟨rfl, rfl⟩
 have hbk := Blk.new w 9 (strs refWords).toArray
 have hal : Keeps [] w (w.alloc (.cells (strs refWords).toArray 9)) := (Keeps.refl _ _).alloc _
 have HP' := Lib.hid (HP.out.keep hal)
 have HJ' := Lib.hid (HJ.out.keep hal)
 have HK' := Lib.hid (HK.out.trans hal.of_nil)
 obtain ⟨B, hB⟩ : ∃ B, w.heap.size = B := ⟨_, rfl⟩
 have HBB : Hid (B ≠ b ∧ jb ≠ B) := Lib.hid (by have := HP.out.lt; have := HJ.out.blk.lt; omega)
 rw [hB] at hbk ⊢
 obtain ⟨w1, hw1⟩ : ∃ z, w.alloc (.cells (strs refWords).toArray 9) = z := ⟨_, rfl⟩
 rw [hw1] at hbk HP' HJ' HK' ⊢
 have HBK := Lib.hid hbk
 clear hbk hal hB hw1 HP HJ HK HE HSP
 go_wp2_with fail
 go_loopw [8] (fun i wr => ∃ r : Nat, r ≤ 9 ∧ i = .int .i64 r ∧ Hid (RdIs wr b l none) ∧ Hid (JbIs wr w0.heap.size jb (⟨at_, (codeR 9 r : Nat), outs, [], [], [], ⟨[], zV⟩, ⟨[], zV⟩, retry⟩ : Jb) v2 (.slice none 0 0) (.slice none 0 0)) ∧ Hid (Blk wr B 9 (strs refWords).toArray) ∧ Hid (Keeps [b] w0 wr)) (fun i _ => 9 - (intOf i).toNat)
 case atStart => exact ⟨0, Nat.zero_le _, rfl, HP', HJ', HBK, HK'⟩
 case round =>
  clear HP' HJ' HK' HBK
  obtain ⟨r, hr, rfl, HP, HJ, HBK, HK⟩ := hrel
  have HE := Lib.hid (HE0.out.one hlo HK.out)
  by_cases hrl : r < 9
  ·have hri : (r : Int) < 9 := by omega
   have hr9 : r < refWords.length := hrl
   have hcl : wr.cell? ⟨B, r, none⟩ = some (.string (bs refWords[r])) := by
    rw [HBK.out.cell r]
    simp [strs, List.getElem?_eq_getElem hr9]
   have lb := HBK.out.lt
   have hS := rsee_any refWords[r] wr HE.out.fine HP.out
   rw [HSW.out r hr9, HCC.out] at hS
   obtain ⟨wd, hwd⟩ : ∃ wd, refWords[r] = wd := ⟨_, rfl⟩
   rw [hwd] at hS hcl
   clear hwd hr9
   by_cases hc : (9 : Nat) = r + 1
   ·rw [decide_eq_true hc] at hS
    have HS := Lib.hid hS
    have HCY : Hid (((r : Int) + 1) = (codeR 9 (r + 1) : Nat)) := Lib.hid (by rw [codeR_yes hc]; omega)
    clear hS hc
    go_wp2_with fail
    refine HS.out.mono ?_
    rintro ev w2 ⟨hev, hk⟩
    have hev' : ev = .returned (.bool true) := hev
    subst hev'
    have HP2 := Lib.hid (HP.out.keep hk)
    have HJ2 := Lib.hid (HJ.out.keep hk)
    have HB2 := Lib.hid (HBK.out.keep hk (by simp))
    have HK2 := Lib.hid (HK.out.trans hk.of_nil)
    have jf1 := HJ2.out.blk.frozen 1
    have jc1 : w2.cell? ⟨jb, 1, none⟩ = some (.int .i64 (codeR 9 r : Nat)) := HJ2.out.blk.cell 1
    have lj := HJ2.out.blk.lt
    clear hev hk HP HJ HBK HK HS hcl lb
    have hkb : Keeps [jb] w2 (w2.setCell ⟨jb, 1, none⟩ (.int .i64 ((r : Int) + 1))) := (Keeps.refl _ _).setCell (.inl (by simp)) _
    have HJ3 : Hid (JbIs (w2.setCell ⟨jb, 1, none⟩ (.int .i64 ((r : Int) + 1))) w0.heap.size jb (⟨at_, (codeR 9 (r + 1) : Nat), outs, [], [], [], ⟨[], zV⟩, ⟨[], zV⟩, retry⟩ : Jb) v2 (.slice none 0 0) (.slice none 0 0)) := Lib.hid (HJ2.out.box hkb ((HJ2.out.blk.set 1 (.int .i64 ((r : Int) + 1))).congr (by rw [HCY.out]; rfl)) rfl rfl rfl)
    have HP3 := Lib.hid (HP2.out.box HJ2.out hkb)
    have HK3 := Lib.hid (HK2.out.box HJB.out hkb)
    have HB3 := Lib.hid (HB2.out.far (p := ⟨jb, 1, none⟩) (fun e => HBB.out.2 e.symm) (.int .i64 ((r : Int) + 1)))
    clear hkb
    go_wp2
    go_roundw
    case rel => exact ⟨r + 1, by omega, by go_num, HP3, HJ3, HB3, HK3⟩
    case measure => simp [intOf]; omega
   ·rw [decide_eq_false hc] at hS
    have HS := Lib.hid hS
    have HCN : Hid (codeR 9 (r + 1) = codeR 9 r) := Lib.hid (codeR_no hc)
    clear hS hc
    go_wp2_with fail
    refine HS.out.mono ?_
    rintro ev w2 ⟨hev, hk⟩
    have hev' : ev = .returned (.bool false) := hev
    subst hev'
    have HP2 := Lib.hid (HP.out.keep hk)
    have HJ2 := Lib.hid (HJ.out.keep hk)
    have HB2 := Lib.hid (HBK.out.keep hk (by simp))
    have HK2 := Lib.hid (HK.out.trans hk.of_nil)
    clear hev hk HP HJ HBK HK HS hcl lb
    go_wp2
    go_roundw
    case rel => exact ⟨r + 1, by omega, by go_num, HP2, by rw [HCN.out]; exact HJ2, HB2, HK2⟩
    case measure => simp [intOf]; omega
  ·obtain rfl : r = 9 := by omega
   have HJ' : Hid (JbIs wr w0.heap.size jb (⟨at_, 9, outs, [], [], [], ⟨[], zV⟩, ⟨[], zV⟩, retry⟩ : Jb) v2 (.slice none 0 0) (.slice none 0 0)) := Lib.hid HJ.out
   clear HJ HBK hr hrl
   have HJ := HJ'
   clear HJ'
   have jc1 : wr.cell? ⟨jb, 1, none⟩ = some (.int .i64 9) := HJ.out.blk.cell 1
   have lj := HJ.out.blk.lt
   obtain ⟨g, o, c, c0, c1, c2, -, lb, lg, -, hn, hc, hc2, k0, k1, k2, -⟩ := HP.out.open'
   rw [HTX.out] at k1
   have hn2 : (0 : Int) < (l.length : Int) := by omega
   have HC := Lib.hid (rmust_any [115, 112, 108, 105, 116] wr HE.out.fine (HE.out.fne hlo) HP.out)
   go_wp2_with fail
   refine HC.out.mono ?_
   rintro ev y1 ⟨rfl, ⟨q1, x1, hp, hr, hll'⟩, hk⟩
   obtain ⟨rfl, rfl⟩ := must_seen hr HSE.out
   clear hr c0 c1 c2 lb lg hn hc hc2 k0 k1 k2 hn2 jc1 lj HSE HTX HSW HCC
   have HJ' := Lib.hid (HJ.out.rd HP.out hk)
   have HK' := Lib.hid (HK.out.trans hk)
   have HE' := Lib.hid (HE.out.one hlo hk)
   have HP' := Lib.hid hp
   clear HJ HK HE HP hk hp HC
   have HJ := HJ'
   have HK := HK'
   have HE := HE'
   have HP := HP'
   clear HJ' HK' HE' HP'
   have HLR := Lib.hid (Nat.le_trans hll' HLQ.out)
   clear hll' HLQ
   have HLQ := HLR
   clear HLR
   obtain ⟨q1, hq1⟩ : ∃ q1, l.tail = q1 := ⟨_, rfl⟩
   rw [hq1] at HP HIM HLQ
   clear hq1
   go_upto_region 9 with (fail)
   have fS : y1.cell? ⟨jb, 3, none⟩ = some (.slice none 0 0) ∧ y1.frozen? ⟨jb, 3, none⟩ = false := ⟨HJ.out.blk.cell 3, HJ.out.blk.frozen 3⟩
   have lj := HJ.out.blk.lt
   have hbd := Lib.hid (show (([] : List Bs)).length + 1 ≤ maxLen ∧ ((([] : List Bs)).length + 1) * 16 ≤ 140737488355328 by have := hlI.out; simp only [maxLen, List.length_cons, List.length_nil] at *; omega)
   have HNE : Hid (jb ∉ [b]) := Lib.hid (by have := HJ.out.blk.ty.ne HP.out.ty (by decide); simpa using this)
   have HC : Hid (∀ W, Keeps [] y1 W → Calls Tryz.prog 32 #[.pointer (some ⟨b, 0, none⟩)] W fun e w' => ∃ s l' x', e = .returned (.string (bs s)) ∧ RdIs w' b l' x' ∧ Rl nameP q1 none s l' x' ∧ s.length ≤ 10 ∧ l'.length ≤ q1.length ∧ Keeps [b] W w') := Lib.hid (fun W z => rname_any W (HE.out.quiet z).fine (HE.out.fne hlo) (HP.out.keep z))
   go_cut [] (fun wx => ∃ a2 q2 x2 vz2, JbIs wx w0.heap.size jb (⟨at_, 9, outs, [] ++ [a2], [], [], ⟨[], zV⟩, ⟨[], zV⟩, retry⟩ : Jb) v2 vz2 (.slice none 0 0) ∧ RdIs wx b q2 x2 ∧ Rl nameP q1 none a2 q2 x2 ∧ q2.length ≤ q1.length ∧ Keeps [b] w0 wx)
   case first =>
    go_region_law (first | (refine step_append_lies _ (by rfl) _ _ _ (by rfl) w0.heap.size 9 i0 _ 1 16 Tryz.underlying39 hi hz0 hz1 hz2 rfl (by decide) (.slice none 0 0) (([] : List Bs)).length (strs (([] : List Bs))) (by rfl) ((HJ.out.rd HP.out hk6.undrew).o3.alloc _) ⟨w6.heap.size, 0, none⟩ 1 1 [.string (bs a2)] (by rfl) rfl (World.news_of_block (heap_alloc_new _ _)) (by simp [Value.oneCell']) (by decide) hbd.out.1 hbd.out.2 (by have := HK.out.size; have := hk6.size; have h9 : y1.drew.heap.size = y1.heap.size := rfl; simp; omega) _ rfl ?_; intro gw cap w7 hown7 hgrow7 hat7 hlt7; obtain ⟨fS7, fZ7⟩ := fld_grown hgrow7 (fld_alloc ⟨fS6, fZ6⟩ _) (fun e => (own_ty (HJ.out.rd HP.out hk6.undrew).o3 jb e).ne (HJ.out.rd HP.out hk6.undrew).blk.ty (by decide) rfl)) | (go_simp; go_at_call 32; refine (HC.out _ (Keeps.refl [] y1).drew).mono ?_; rintro e w6 ⟨a2, q2, x2, rfl, hp6, hr6, hs6, hll6, hk6⟩; obtain ⟨fS6, fZ6⟩ := fld_keeps hk6 fS HNE.out; have gl6 : jb < w6.heap.size := World.block_lt_of_cell? w6 ⟨jb, 3, none⟩ fS6))
    all_goals
     go_wp2
     go_meet
     have hh := JbIs.app3r (HJ.out.rd HP.out hk6.undrew) hp6 (HK.out.trans hk6.undrew) rfl HJB.out hgrow7 rfl hown7 hat7 (by simp)
     exact ⟨a2, q2, x2, _, hh.1, hh.2.1, hr6, hll6, hh.2.2⟩
   case rest =>
    obtain ⟨a2, q2, x2, vz2, hj, hp, hr, hll', hk⟩ := hcut
    obtain ⟨y2, rfl⟩ : ∃ y : World, y = wc := ⟨_, rfl⟩
    clear HP HJ HK HE HC fS lj hbd HNE
    have HP := Lib.hid hp
    have HJ := Lib.hid hj
    have HK := Lib.hid hk
    have HE := Lib.hid (HE0.out.one hlo hk)
    clear hp hj hk
    have HIM' : Hid (∀ i l' x', Rl (fun r => mustP [119, 104, 101, 114, 101] r >>= (fun r => nameP r >>= fun p2 => (fun r => oneP cmpL r >>= fun p3 => (fun r => argP r >>= fun p4 => (fun r => .ok ((⟨at_, 9, outs, [] ++ [a2], [], p3.1, ⟨p2.1, zV⟩, p4.1, retry⟩ : Jb), r)) p4.2) p3.2) p2.2)) q2 x2 i l' x' → Rl (bodyP (job0 at_ outs retry)) l none i l' x') := Lib.hid (fun i l' x' hq => HIM.out i l' x' (Rl.bind (Q := fun a => fun r => mustP [119, 104, 101, 114, 101] r >>= (fun r => nameP r >>= fun p2 => (fun r => oneP cmpL r >>= fun p3 => (fun r => argP r >>= fun p4 => (fun r => .ok ((⟨at_, 9, outs, [] ++ [a], [], p3.1, ⟨p2.1, zV⟩, p4.1, retry⟩ : Jb), r)) p4.2) p3.2) p2.2)) hr hq))
    clear HIM hr
    have HIM := HIM'
    clear HIM'
    have HLR := Lib.hid (Nat.le_trans hll' HLQ.out)
    clear hll' HLQ
    have HLQ := HLR
    clear HLR
    have HLN : Hid (([] ++ [a2]).length ≤ 101) := Lib.hid (by have := hlI.out; simp only [List.length_append, List.length_cons, List.length_nil] at *; omega)
    obtain ⟨il2, hil⟩ : ∃ il, [] ++ [a2] = il := ⟨_, rfl⟩
    rw [hil] at HJ HIM HLN
    clear hil hlI
    have hlI := HLN
    clear HLN
    have jc1 : y2.cell? ⟨jb, 1, none⟩ = some (.int .i64 9) := HJ.out.blk.cell 1
    have lj := HJ.out.blk.lt
    have HC := Lib.hid (rmust_any [119, 104, 101, 114, 101] y2 HE.out.fine (HE.out.fne hlo) HP.out)
    go_wp2_with fail
    refine HC.out.mono ?_
    rintro ev y3 ⟨rfl, ⟨q3, x3, hp, hr, hll'⟩, hk⟩
    have HIM' : Hid (∀ i l' x', Rl (fun r => nameP r >>= fun p2 => (fun r => oneP cmpL r >>= fun p3 => (fun r => argP r >>= fun p4 => (fun r => .ok ((⟨at_, 9, outs, il2, [], p3.1, ⟨p2.1, zV⟩, p4.1, retry⟩ : Jb), r)) p4.2) p3.2) p2.2) q3 x3 i l' x' → Rl (bodyP (job0 at_ outs retry)) l none i l' x') := Lib.hid (fun i l' x' hq => HIM.out i l' x' (Rl.must hr hq))
    clear HIM hr
    have HIM := HIM'
    clear HIM'
    have HJ' := Lib.hid (HJ.out.rd HP.out hk)
    have HK' := Lib.hid (HK.out.trans hk)
    have HE' := Lib.hid (HE.out.one hlo hk)
    have HP' := Lib.hid hp
    clear HJ HK HE HP hk hp HC
    have HJ := HJ'
    have HK := HK'
    have HE := HE'
    have HP := HP'
    clear HJ' HK' HE' HP'
    have HLR := Lib.hid (Nat.le_trans hll' HLQ.out)
    clear hll' HLQ
    have HLQ := HLR
    clear HLR
    clear jc1 lj
    cases x3 with
    | some y =>
     have HD : Hid (∀ i l', Rl (bodyP (job0 at_ outs retry)) l none i l' (some y)) := Lib.hid (fun i l' => HIM.out i l' _ rfl)
     clear HIM
     have HC := Lib.hid (ok_any y3 HE.out.fine HP.out)
     go_wp2_with fail
     refine HC.out.mono ?_
     rintro ev y4 ⟨hev, hk⟩
     have hev' : ev = .returned (.bool false) := hev
     subst hev'
     clear hev
     have HJ' := Lib.hid (HJ.out.keep hk)
     have HK' := Lib.hid (HK.out.trans hk.of_nil)
     have HE' := Lib.hid (HE.out.quiet hk)
     have HP' := Lib.hid (HP.out.keep hk)
     clear HJ HK HE HP hk HC
     have HJ := HJ'
     have HK := HK'
     have HE := HE'
     have HP := HP'
     clear HJ' HK' HE' HP'
     have HFIN : Hid (Rl (bodyP (job0 at_ outs retry)) l none (⟨at_, 9, outs, il2, [], [], ⟨[], zV⟩, ⟨[], zV⟩, retry⟩ : Jb) q3 (some y)) := Lib.hid (HD.out _ _)
     go_wp2
     first | go_end0 | refine bodyPost_ret (results_none rfl _ _ _) rfl ?_
     exact ⟨rfl, RbOut.mk (⟨at_, 9, outs, il2, [], [], ⟨[], zV⟩, ⟨[], zV⟩, retry⟩ : Jb) _ _ _ q3 (some y) HJ.out HP.out HFIN.out HLQ.out HK.out⟩
    | none =>
     have HC := Lib.hid (ok_any y3 HE.out.fine HP.out)
     go_wp2_with fail
     refine HC.out.mono ?_
     rintro ev y4 ⟨hev, hk⟩
     have hev' : ev = .returned (.bool true) := hev
     subst hev'
     clear hev
     have HJ' := Lib.hid (HJ.out.keep hk)
     have HK' := Lib.hid (HK.out.trans hk.of_nil)
     have HE' := Lib.hid (HE.out.quiet hk)
     have HP' := Lib.hid (HP.out.keep hk)
     clear HJ HK HE HP hk HC
     have HJ := HJ'
     have HK := HK'
     have HE := HE'
     have HP := HP'
     clear HJ' HK' HE' HP'
     have HC := Lib.hid (rname_any y4 HE.out.fine (HE.out.fne hlo) HP.out)
     go_wp2_with fail
     refine HC.out.mono ?_
     rintro ev y5 ⟨a5, q5, x5, rfl, hp, hr, hs, hll', hk⟩
     clear hs
     have HIM' : Hid (∀ i l' x', Rl (fun r => oneP cmpL r >>= fun p3 => (fun r => argP r >>= fun p4 => (fun r => .ok ((⟨at_, 9, outs, il2, [], p3.1, ⟨a5, zV⟩, p4.1, retry⟩ : Jb), r)) p4.2) p3.2) q5 x5 i l' x' → Rl (bodyP (job0 at_ outs retry)) l none i l' x') := Lib.hid (fun i l' x' hq => HIM.out i l' x' (Rl.bind (Q := fun a => fun r => oneP cmpL r >>= fun p3 => (fun r => argP r >>= fun p4 => (fun r => .ok ((⟨at_, 9, outs, il2, [], p3.1, ⟨a, zV⟩, p4.1, retry⟩ : Jb), r)) p4.2) p3.2) hr hq))
     clear HIM hr
     have HIM := HIM'
     clear HIM'
     have HJ' := Lib.hid (HJ.out.rd HP.out hk)
     have HK' := Lib.hid (HK.out.trans hk)
     have HE' := Lib.hid (HE.out.one hlo hk)
     have HP' := Lib.hid hp
     clear HJ HK HE HP hk hp HC
     have HJ := HJ'
     have HK := HK'
     have HE := HE'
     have HP := HP'
     clear HJ' HK' HE' HP'
     have HLR := Lib.hid (Nat.le_trans hll' HLQ.out)
     clear hll' HLQ
     have HLQ := HLR
     clear HLR
     have jf6 := HJ.out.blk.frozen 6
     have jc6 : y5.cell? ⟨jb, 6, none⟩ = some (.string (bs [])) := HJ.out.blk.cell 6
     have lj := HJ.out.blk.lt
     have hkb : Keeps [jb] y5 (y5.setCell ⟨jb, 6, none⟩ (.string (bs a5))) := (Keeps.refl _ _).setCell (.inl (by simp)) _
     have HJ' : Hid (JbIs (y5.setCell ⟨jb, 6, none⟩ (.string (bs a5))) w0.heap.size jb (⟨at_, 9, outs, il2, [], [], ⟨a5, zV⟩, ⟨[], zV⟩, retry⟩ : Jb) v2 vz2 (.slice none 0 0)) := Lib.hid (HJ.out.box hkb ((HJ.out.blk.set 6 (.string (bs a5))).congr (by rfl)) rfl rfl rfl)
     have HP' := Lib.hid (HP.out.box HJ.out hkb)
     have HK' := Lib.hid (HK.out.box HJB.out hkb)
     have HE' := Lib.hid (HE0.out.one hlo HK'.out)
     clear hkb
     go_upto_region 16 with (fail)
     obtain ⟨y6, hy⟩ : ∃ x, (y5.setCell ⟨jb, 6, none⟩ (.string (bs a5))) = x := ⟨_, rfl⟩
     rw [hy] at HJ' HP' HK' HE' ⊢
     clear hy jf6 jc6 lj HJ HP HK HE
     have HJ := HJ'
     have HP := HP'
     have HK := HK'
     have HE := HE'
     clear HJ' HP' HK' HE'
     have HC := Lib.hid (rmark_any [61, 32, 60, 62, 32, 60, 32, 60, 61, 32, 62, 32, 62, 61] [[61], [60, 62], [60], [60, 61], [62], [62, 61]] (by decide) (by decide) (by decide) (by decide) y6 HE.out.renv (HE.out.fne hlo) (HE.out.mne hlo) HP.out)
     go_wp2_with fail
     refine HC.out.mono ?_
     rintro ev y7 ⟨a7, q7, x7, rfl, hp, hr, hs, hll', hk⟩
     clear hs
     replace hr := Rl.same cmp_same hr
     have HIM' : Hid (∀ i l' x', Rl (fun r => argP r >>= fun p4 => (fun r => .ok ((⟨at_, 9, outs, il2, [], a7, ⟨a5, zV⟩, p4.1, retry⟩ : Jb), r)) p4.2) q7 x7 i l' x' → Rl (bodyP (job0 at_ outs retry)) l none i l' x') := Lib.hid (fun i l' x' hq => HIM.out i l' x' (Rl.bind (Q := fun a => fun r => argP r >>= fun p4 => (fun r => .ok ((⟨at_, 9, outs, il2, [], a, ⟨a5, zV⟩, p4.1, retry⟩ : Jb), r)) p4.2) hr hq))
     clear HIM hr
     have HIM := HIM'
     clear HIM'
     have HJ' := Lib.hid (HJ.out.rd HP.out hk)
     have HK' := Lib.hid (HK.out.trans hk)
     have HE' := Lib.hid (HE.out.one hlo hk)
     have HP' := Lib.hid hp
     clear HJ HK HE HP hk hp HC
     have HJ := HJ'
     have HK := HK'
     have HE := HE'
     have HP := HP'
     clear HJ' HK' HE' HP'
     have HLR := Lib.hid (Nat.le_trans hll' HLQ.out)
     clear hll' HLQ
     have HLQ := HLR
     clear HLR
     have jf5 := HJ.out.blk.frozen 5
     have jc5 : y7.cell? ⟨jb, 5, none⟩ = some (.string (bs [])) := HJ.out.blk.cell 5
     have lj := HJ.out.blk.lt
     have hkb : Keeps [jb] y7 (y7.setCell ⟨jb, 5, none⟩ (.string (bs a7))) := (Keeps.refl _ _).setCell (.inl (by simp)) _
     have HJ' : Hid (JbIs (y7.setCell ⟨jb, 5, none⟩ (.string (bs a7))) w0.heap.size jb (⟨at_, 9, outs, il2, [], a7, ⟨a5, zV⟩, ⟨[], zV⟩, retry⟩ : Jb) v2 vz2 (.slice none 0 0)) := Lib.hid (HJ.out.box hkb ((HJ.out.blk.set 5 (.string (bs a7))).congr (by rfl)) rfl rfl rfl)
     have HP' := Lib.hid (HP.out.box HJ.out hkb)
     have HK' := Lib.hid (HK.out.box HJB.out hkb)
     have HE' := Lib.hid (HE0.out.one hlo HK'.out)
     clear hkb
     go_upto_region 17 with (fail)
     obtain ⟨y8, hy⟩ : ∃ x, (y7.setCell ⟨jb, 5, none⟩ (.string (bs a7))) = x := ⟨_, rfl⟩
     rw [hy] at HJ' HP' HK' HE' ⊢
     clear hy jf5 jc5 lj HJ HP HK HE
     have HJ := HJ'
     have HP := HP'
     have HK := HK'
     have HE := HE'
     clear HJ' HP' HK' HE'
     cases x7 with
     | some y =>
      have HD : Hid (∀ i l', Rl (bodyP (job0 at_ outs retry)) l none i l' (some y)) := Lib.hid (fun i l' => HIM.out i l' _ rfl)
      clear HIM
      have HC := Lib.hid (ok_any y8 HE.out.fine HP.out)
      go_wp2_with fail
      refine HC.out.mono ?_
      rintro ev y9 ⟨hev, hk⟩
      have hev' : ev = .returned (.bool false) := hev
      subst hev'
      clear hev
      have HJ' := Lib.hid (HJ.out.keep hk)
      have HK' := Lib.hid (HK.out.trans hk.of_nil)
      have HE' := Lib.hid (HE.out.quiet hk)
      have HP' := Lib.hid (HP.out.keep hk)
      clear HJ HK HE HP hk HC
      have HJ := HJ'
      have HK := HK'
      have HE := HE'
      have HP := HP'
      clear HJ' HK' HE' HP'
      have HFIN : Hid (Rl (bodyP (job0 at_ outs retry)) l none (⟨at_, 9, outs, il2, [], a7, ⟨a5, zV⟩, ⟨[], zV⟩, retry⟩ : Jb) q7 (some y)) := Lib.hid (HD.out _ _)
      go_wp2
      first | go_end0 | refine bodyPost_ret (results_none rfl _ _ _) rfl ?_
      exact ⟨rfl, RbOut.mk (⟨at_, 9, outs, il2, [], a7, ⟨a5, zV⟩, ⟨[], zV⟩, retry⟩ : Jb) _ _ _ q7 (some y) HJ.out HP.out HFIN.out HLQ.out HK.out⟩
     | none =>
      have HC := Lib.hid (ok_any y8 HE.out.fine HP.out)
      go_wp2_with fail
      refine HC.out.mono ?_
      rintro ev y9 ⟨hev, hk⟩
      have hev' : ev = .returned (.bool true) := hev
      subst hev'
      clear hev
      have HJ' := Lib.hid (HJ.out.keep hk)
      have HK' := Lib.hid (HK.out.trans hk.of_nil)
      have HE' := Lib.hid (HE.out.quiet hk)
      have HP' := Lib.hid (HP.out.keep hk)
      clear HJ HK HE HP hk HC
      have HJ := HJ'
      have HK := HK'
      have HE := HE'
      have HP := HP'
      clear HJ' HK' HE' HP'
      have HC := Lib.hid (rarg_any y9 HE.out hlo HP.out (Nat.le_trans HLQ.out HLL.out))
      go_wp2_with fail
      refine HC.out.mono ?_
      rintro ev y10 ⟨a10, q10, x10, he, hp, hr, hll', hk⟩
      have he2 : ev = .returned (.agg #[.string (bs a10.col), .int .i64 a10.val.kind, .int .i64 a10.val.num, .string (bs a10.val.word)]) := he
      subst he2
      clear he
      have HIM' : Hid (∀ i l' x', Rl (fun r => .ok ((⟨at_, 9, outs, il2, [], a7, ⟨a5, zV⟩, a10, retry⟩ : Jb), r)) q10 x10 i l' x' → Rl (bodyP (job0 at_ outs retry)) l none i l' x') := Lib.hid (fun i l' x' hq => HIM.out i l' x' (Rl.bind (Q := fun a => fun r => .ok ((⟨at_, 9, outs, il2, [], a7, ⟨a5, zV⟩, a, retry⟩ : Jb), r)) hr hq))
      clear HIM hr
      have HIM := HIM'
      clear HIM'
      have HJ' := Lib.hid (HJ.out.rd HP.out hk)
      have HK' := Lib.hid (HK.out.trans hk)
      have HE' := Lib.hid (HE.out.one hlo hk)
      have HP' := Lib.hid hp
      clear HJ HK HE HP hk hp HC
      have HJ := HJ'
      have HK := HK'
      have HE := HE'
      have HP := HP'
      clear HJ' HK' HE' HP'
      have HLR := Lib.hid (Nat.le_trans hll' HLQ.out)
      clear hll' HLQ
      have HLQ := HLR
      clear HLR
      have jf10 := HJ.out.blk.frozen 10
      have jc10 : y10.cell? ⟨jb, 10, none⟩ = some (.string (bs [])) := HJ.out.blk.cell 10
      have jf11 := HJ.out.blk.frozen 11
      have jc11 : y10.cell? ⟨jb, 11, none⟩ = some (.int .i64 0) := HJ.out.blk.cell 11
      have jf12 := HJ.out.blk.frozen 12
      have jc12 : y10.cell? ⟨jb, 12, none⟩ = some (.int .i64 0) := HJ.out.blk.cell 12
      have jf13 := HJ.out.blk.frozen 13
      have jc13 : y10.cell? ⟨jb, 13, none⟩ = some (.string ⟨#[]⟩) := HJ.out.blk.cell 13
      have lj := HJ.out.blk.lt
      have hkb : Keeps [jb] y10 ((((y10.setCell ⟨jb, 10, none⟩ (.string (bs a10.col))).setCell ⟨jb, 11, none⟩ (.int .i64 a10.val.kind)).setCell ⟨jb, 12, none⟩ (.int .i64 a10.val.num)).setCell ⟨jb, 13, none⟩ (.string (bs a10.val.word))) := ((((Keeps.refl _ _).setCell (.inl (by simp)) _).setCell (.inl (by simp)) _).setCell (.inl (by simp)) _).setCell (.inl (by simp)) _
      have HJ' : Hid (JbIs ((((y10.setCell ⟨jb, 10, none⟩ (.string (bs a10.col))).setCell ⟨jb, 11, none⟩ (.int .i64 a10.val.kind)).setCell ⟨jb, 12, none⟩ (.int .i64 a10.val.num)).setCell ⟨jb, 13, none⟩ (.string (bs a10.val.word))) w0.heap.size jb (⟨at_, 9, outs, il2, [], a7, ⟨a5, zV⟩, a10, retry⟩ : Jb) v2 vz2 (.slice none 0 0)) := Lib.hid (HJ.out.box hkb (((((HJ.out.blk.set 10 (.string (bs a10.col))).set 11 (.int .i64 a10.val.kind)).set 12 (.int .i64 a10.val.num)).set 13 (.string (bs a10.val.word))).congr (by rfl)) rfl rfl rfl)
      have HP' := Lib.hid (HP.out.box HJ.out hkb)
      have HK' := Lib.hid (HK.out.box HJB.out hkb)
      clear hkb
      have HFIN : Hid (Rl (bodyP (job0 at_ outs retry)) l none (⟨at_, 9, outs, il2, [], a7, ⟨a5, zV⟩, a10, retry⟩ : Jb) q10 x10) := Lib.hid (HIM.out _ _ _ (Rl.stay (fun _ => rfl)))
      go_wp2
      first | go_end0 | refine bodyPost_ret (results_none rfl _ _ _) rfl ?_
      exact ⟨rfl, RbOut.mk (⟨at_, 9, outs, il2, [], a7, ⟨a5, zV⟩, a10, retry⟩ : Jb) _ _ _ q10 x10 HJ'.out HP'.out HFIN.out HLQ.out HK'.out⟩
end Go.Proofs.YtnjjajanfedjiaaGreatDoor
namespace Go.Proofs.YtnjjajanfedjiaaGreatDoor
open Go.RowKit Go.BigFrame
theorem rbody_any {l : List Tk} {b jb lo : Nat} {v2 : Value} (at_ : Int) (outs : List Bs) (retry : Int) (w0 w : World) (hE : RB w0 lo) (hlo : lo ≤ b) (h : RdIs w b l none) (hk : Keeps [b] w0 w) (hjb : w0.heap.size ≤ jb) (hj : JbIs w w0.heap.size jb (job0 at_ outs retry) v2 (.slice none 0 0) (.slice none 0 0)) (hll : l.length ≤ 1000000) :
  Calls Tryz.prog 71 #[.pointer (some ⟨b, 0, none⟩), .pointer (some ⟨jb, 0, none⟩)] w fun e w' => e = .returned (.tuple #[]) ∧ RbOut (bodyP (job0 at_ outs retry)) l b jb w0 w' := by
 have h9 := wordIx_lt (hdT l).text
 obtain ⟨c, hc⟩ : ∃ c, wordIx (hdT l).text = c := ⟨_, rfl⟩
 rw [hc] at h9
 match c, hc, h9 with
 | 0, hc, _ => exact rbody_0 at_ outs retry w0 w hE hlo h hk hjb hj hll hc
 | 1, hc, _ => exact rbody_1 at_ outs retry w0 w hE hlo h hk hjb hj hll hc
 | 2, hc, _ => exact rbody_2 at_ outs retry w0 w hE hlo h hk hjb hj hll hc
 | 3, hc, _ => exact rbody_3 at_ outs retry w0 w hE hlo h hk hjb hj hll hc
 | 4, hc, _ => exact rbody_4 at_ outs retry w0 w hE hlo h hk hjb hj hll hc
 | 5, hc, _ => exact rbody_5 at_ outs retry w0 w hE hlo h hk hjb hj hll hc
 | 6, hc, _ => exact rbody_6 at_ outs retry w0 w hE hlo h hk hjb hj hll hc
 | 7, hc, _ => exact rbody_7 at_ outs retry w0 w hE hlo h hk hjb hj hll hc
 | 8, hc, _ => exact rbody_8 at_ outs retry w0 w hE hlo h hk hjb hj hll hc
 | 9, hc, _ => exact rbody_9 at_ outs retry w0 w hE hlo h hk hjb hj hll hc
end Go.Proofs.YtnjjajanfedjiaaGreatDoor
