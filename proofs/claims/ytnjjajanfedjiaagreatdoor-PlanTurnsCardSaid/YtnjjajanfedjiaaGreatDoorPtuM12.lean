/- The parser's job. Flows in memory. What each part of the parser leaves: plain. -/
import Derived.Test.YtnjjajanfedjiaaGreatDoorPtuM11
set_option linter.unusedSimpArgs false
set_option linter.unusedVariables false
namespace Go.Proofs.YtnjjajanfedjiaaGreatDoor
open Go.RowKit Go.BigFrame
attribute [local go_sem] bs_size bs_extract bs_append bs_toList
theorem namesGo_le : ∀ (n : Nat) {l r : List Tk} {acc ns : List Bs}, namesGo n l acc = .ok (ns, r) → r.length ≤ l.length
 | 0, l, r, acc, ns, h => by
  injection h with h
  injection h with _ h
  rw [h]
  exact Nat.le_refl _
 | n + 1, l, r, acc, ns, h => by
  unfold namesGo at h
  split at h
  ·rcases h1 : nameP l.tail with x | ⟨s, r1⟩
   ·rw [h1] at h; cases h
   ·rw [h1, ok_bind] at h
    have := namesGo_le n h
    have h2 := nameP_len h1
    rw [List.length_tail] at h2
    omega
  ·injection h with h
   injection h with _ h
   rw [h]
   exact Nat.le_refl _
theorem namesP_le {l r : List Tk} {ns : List Bs} (h : namesP l = .ok (ns, r)) : r.length ≤ l.length := by
 unfold namesP at h
 rcases h1 : nameP l with x | ⟨s, r1⟩
 ·rw [h1] at h; cases h
 ·rw [h1, ok_bind] at h
  have := namesGo_le _ h
  have h2 := nameP_len h1
  omega
structure JRows (W : World) (base : Nat) (j : Jb) (v2 v3 v4 : Value) : Prop where
 o2 : W.ownsRow base 9 1 v2 j.outs.length (strs j.outs)
 o3 : W.ownsRow base 9 1 v3 j.ins.length (strs j.ins)
 o4 : W.ownsRow base 9 1 v4 j.cols.length (strs j.cols)
def JobOut (R : Except (Int × Int) (Jb × List Tk)) (b base : Nat) (e : Ending) (w' : World) : Prop := match R with
 | .ok (j, r) => ∃ v2 v3 v4, e = .returned (.agg (jbCells j v2 v3 v4)) ∧ JRows w' base j v2 v3 v4 ∧ Ps w' b r
 | .error x => Thrown x e w'
set_option maxRecDepth 100000 in
set_option maxHeartbeats 8000000 in
theorem job_any {l : List Tk} {b lo : Nat} (w : World) (hE : FB w lo) (hlo : lo ≤ b) (h : Ps w b l) (hll : l.length ≤ 1000000) :
  Calls Tryz.prog 76 #[.pointer (some ⟨b, 0, none⟩)] w fun e w' => JobOut (jobP l) b w.heap.size e w' ∧ Keeps [b] w w' := by
 obtain ⟨R, hR⟩ : ∃ R, jobP l = R := ⟨_, rfl⟩
 rw [hR]
 unfold jobP at hR
 obtain ⟨at_, hat⟩ : ∃ at_, (hdT l).at_ = at_ := ⟨_, rfl⟩
 rw [hat] at hR
 have HR := Lib.hid hR
 have HLL := Lib.hid hll
 have HLQ := Lib.hid (Nat.le_refl l.length)
 have HRG := Lib.hid (Nat.le_refl w.heap.size)
 have hrb := Blk.new w 45 #[.int .i64 0, .int .i64 0, .slice none 0 0, .slice none 0 0, .slice none 0 0, .string ⟨#[]⟩, .string ⟨#[]⟩, .int .i64 0, .int .i64 0, .string ⟨#[]⟩, .string ⟨#[]⟩, .int .i64 0, .int .i64 0, .string ⟨#[]⟩, .int .i64 0]
 have hk0 := (Keeps.refl [] w).alloc (.cells #[.int .i64 0, .int .i64 0, .slice none 0 0, .slice none 0 0, .slice none 0 0, .string ⟨#[]⟩, .string ⟨#[]⟩, .int .i64 0, .int .i64 0, .string ⟨#[]⟩, .string ⟨#[]⟩, .int .i64 0, .int .i64 0, .string ⟨#[]⟩, .int .i64 0] 45)
 have hsz := fsz w (.cells #[.int .i64 0, .int .i64 0, .slice none 0 0, .slice none 0 0, .slice none 0 0, .string ⟨#[]⟩, .string ⟨#[]⟩, .int .i64 0, .int .i64 0, .string ⟨#[]⟩, .string ⟨#[]⟩, .int .i64 0, .int .i64 0, .string ⟨#[]⟩, .int .i64 0] 45)
 have HRBB : Hid (w.heap.size ∉ [b]) := Lib.hid (by have := h.lt; simp; omega)
 have hE0 := hE.quiet hk0
 have hp0 := h.keep hk0
 obtain ⟨rb, hrbn⟩ : ∃ rb, w.heap.size = rb := ⟨_, rfl⟩
 rw [hrbn] at hrb HRBB
 have HRG : Hid (w.heap.size ≤ rb) := Lib.hid (by omega)
 have HRN := Lib.hid hrbn
 clear hR hll hrbn
 go_enter Tryz.func76, Tryz.ntmps76
 go_upto_region 1 with (fail)
 obtain ⟨w0, hw0⟩ : ∃ x, w.alloc (.cells #[.int .i64 0, .int .i64 0, .slice none 0 0, .slice none 0 0, .slice none 0 0, .string ⟨#[]⟩, .string ⟨#[]⟩, .int .i64 0, .int .i64 0, .string ⟨#[]⟩, .string ⟨#[]⟩, .int .i64 0, .int .i64 0, .string ⟨#[]⟩, .int .i64 0] 45) = x := ⟨_, rfl⟩
 rw [hw0] at hrb hk0 hsz hE0 hp0 ⊢
 rw [HRN.out]
 have HRB0 := Lib.hid hrb
 have HW0 := Lib.hid hk0
 have HE := Lib.hid hE0
 have HP0 := Lib.hid hp0
 obtain ⟨g, o, c, c0, z0, lb, lg, -, hn, hc, hc2, k0, k1, k2, -⟩ := hp0.open'
 have hn2 : (0 : Int) < (l.length : Int) := by omega
 clear hrb hk0 hsz hE0 hp0 hw0 h hE
 rw [hat] at k2
 go_upto_region 2 with (fail)
 have hjn := Blk.new w0 45 #[.int .i64 at_, .int .i64 0, .slice none 0 0, .slice none 0 0, .slice none 0 0, .string ⟨#[]⟩, .string ⟨#[]⟩, .int .i64 0, .int .i64 0, .string ⟨#[]⟩, .string ⟨#[]⟩, .int .i64 0, .int .i64 0, .string ⟨#[]⟩, .int .i64 0]
 have hk1 := (Keeps.refl [] w0).alloc (.cells #[.int .i64 at_, .int .i64 0, .slice none 0 0, .slice none 0 0, .slice none 0 0, .string ⟨#[]⟩, .string ⟨#[]⟩, .int .i64 0, .int .i64 0, .string ⟨#[]⟩, .string ⟨#[]⟩, .int .i64 0, .int .i64 0, .string ⟨#[]⟩, .int .i64 0] 45)
 have hp1 := HP0.out.keep hk1
 obtain ⟨y0, hy0⟩ : ∃ x, w0.alloc (.cells #[.int .i64 at_, .int .i64 0, .slice none 0 0, .slice none 0 0, .slice none 0 0, .string ⟨#[]⟩, .string ⟨#[]⟩, .int .i64 0, .int .i64 0, .string ⟨#[]⟩, .string ⟨#[]⟩, .int .i64 0, .int .i64 0, .string ⟨#[]⟩, .int .i64 0] 45) = x := ⟨_, rfl⟩
 rw [hy0] at hjn hk1 hp1 ⊢
 obtain ⟨jb, hjb⟩ : ∃ jb, w0.heap.size = jb := ⟨_, rfl⟩
 have HJ : Hid (JbIs y0 w0.heap.size jb ⟨at_, 0, [], [], [], [], ⟨[], zV⟩, ⟨[], zV⟩, 0⟩ (.slice none 0 0) (.slice none 0 0) (.slice none 0 0)) := Lib.hid (by
  rw [hjb] at hjn
  exact ⟨hjn, World.ownsRow_nil _ _ _ _, World.ownsRow_nil _ _ _ _, World.ownsRow_nil _ _ _ _, (fun g hg => by cases hg), (fun g hg => by cases hg), (fun g hg => by cases hg)⟩)
 have HP := Lib.hid hp1
 have HK : Hid (Keeps [b] w0 y0) := Lib.hid hk1.of_nil
 have HJB : Hid (w0.heap.size ≤ jb) := Lib.hid (by omega)
 rw [hjb]
 clear hjn hk1 hp1 hy0 hjb hat c0 z0 lb lg hn hc hc2 k0 k1 k2 hn2
 rcases hS : mustP [106, 111, 98] l with x | r1
 ·have hr := HR.out
  rw [hS, err_bind] at hr
  have HX := Lib.hid hr.symm
  have HC := Lib.hid (must_no hS y0 HP.out)
  clear hr hS
  go_wp2_with fail
  refine HC.out.mono ?_
  rintro ev w9 ⟨⟨gi, rfl, hb⟩, hk9⟩
  exact ⟨rfl, by rw [HX.out]; exact ⟨gi, rfl, hb⟩, HW0.out.of_nil.trans (HK.out.trans hk9)⟩
 have hr := HR.out
 rw [hS, ok_bind] at hr
 try dsimp only at hr
 clear HR
 have HR := Lib.hid hr
 clear hr
 have HC := Lib.hid (must_yes hS y0 HP.out)
 have HLR : Hid (r1.length ≤ l.length) := Lib.hid (by have := HLQ.out; have := mustP_len hS; omega)
 clear HLQ
 have HLQ := HLR
 clear HLR
 clear hS
 go_wp2_with fail
 refine HC.out.mono ?_
 rintro ev y1 ⟨rfl, hp, hk⟩
 have HJ' := Lib.hid (HJ.out.ps HP.out hk)
 have HK' := Lib.hid (HK.out.trans hk)
 clear HP HJ HK HC
 have HP := Lib.hid hp
 have HJ := HJ'
 have HK := HK'
 clear hp hk HJ' HK'
 have hc := names_any y1 HP.out (Nat.le_trans HLQ.out HLL.out)
 rcases hS : namesP r1 with x | ⟨a2, r2⟩
 ·have hr := HR.out
  rw [hS, err_bind] at hr
  have HX := Lib.hid hr.symm
  rw [hS] at hc
  have HC2 := Lib.hid hc
  clear hr hS hc
  go_wp2_with fail
  refine HC2.out.mono ?_
  rintro ev w9 ⟨⟨gi, rfl, hb⟩, hk9⟩
  exact ⟨rfl, by rw [HX.out]; exact ⟨gi, rfl, hb⟩, HW0.out.of_nil.trans (HK.out.trans hk9)⟩
 have hr := HR.out
 rw [hS, ok_bind] at hr
 try dsimp only at hr
 clear HR
 have HR := Lib.hid hr
 clear hr
 rw [hS] at hc
 have HLR : Hid (r2.length ≤ l.length) := Lib.hid (Nat.le_trans (namesP_le hS) HLQ.out)
 have HC := Lib.hid hc
 clear hS hc HLQ
 have HLQ := HLR
 clear HLR
 go_wp2_with fail
 refine HC.out.mono ?_
 rintro ev y2 ⟨⟨v2, rfl, hov, hp⟩, hk⟩
 obtain ⟨A2, c2, hv, -⟩ := own_form hov
 subst hv
 have HOV := Lib.hid hov
 have HA3 : Hid (Apart (.slice A2 a2.length c2) (.slice none 0 0)) := Lib.hid (Apart.new HJ.out.o3 (fun g hg => (hov.lt g hg).1)).symm
 have HA4 : Hid (Apart (.slice A2 a2.length c2) (.slice none 0 0)) := Lib.hid (Apart.new HJ.out.o4 (fun g hg => (hov.lt g hg).1)).symm
 have HWG := Lib.hid HK.out.size
 clear hov
 have HJ' := Lib.hid (HJ.out.ps HP.out hk)
 have HK' := Lib.hid (HK.out.trans hk)
 clear HP HJ HK HC
 have HP := Lib.hid hp
 have HJ := HJ'
 have HK := HK'
 clear hp hk HJ' HK'
 have jf2 := HJ.out.blk.frozen 2
 have jc2 : y2.cell? ⟨jb, 2, none⟩ = some ((.slice none 0 0)) := HJ.out.blk.cell 2
 have lj := HJ.out.blk.lt
 have hkb : Keeps [jb] y2 (y2.setCell ⟨jb, 2, none⟩ (.slice A2 a2.length c2)) := (Keeps.refl _ _).setCell (.inl (by simp)) _
 have HJ' := Lib.hid (HJ.out.put2 (own_low HOV.out HWG.out) HA3.out HA4.out)
 have HP' := Lib.hid (HP.out.box HJ.out hkb)
 have HK' := Lib.hid (HK.out.box HJB.out hkb)
 clear hkb
 go_upto_region 4 with (fail)
 obtain ⟨y3, hy⟩ : ∃ x, (y2.setCell ⟨jb, 2, none⟩ (.slice A2 a2.length c2)) = x := ⟨_, rfl⟩
 rw [hy] at HJ' HP' HK' ⊢
 clear hy jf2 jc2 lj HJ HP HK
 have HJ := HJ'
 have HP := HP'
 have HK := HK'
 clear HJ' HP' HK'
 obtain ⟨sb, hsb⟩ : ∃ sb, seeP [114, 101, 116, 114, 121] r2 = sb := ⟨_, rfl⟩
 have hT := take_any [114, 101, 116, 114, 121] y3 HP.out
 rw [hsb] at hT
 have HT := Lib.hid hT
 have HSB := Lib.hid hsb
 clear hT hsb
 go_wp2_with fail
 refine HT.out.mono ?_
 rintro ev y4 ⟨rfl, hp, hk⟩
 have HJ' := Lib.hid (HJ.out.ps HP.out hk)
 have HK' := Lib.hid (HK.out.trans hk)
 clear HP HJ HK HT
 have HP := Lib.hid hp
 have HJ := HJ'
 have HK := HK'
 clear hp hk HJ' HK'
 go_upto_if 21 with (fail)
 go_cut [] (fun wx => ∃ n r, retryP r2 = .ok (n, r) ∧ JbIs wx w0.heap.size jb (⟨at_, 0, a2, [], [], [], ⟨[], zV⟩, ⟨[], zV⟩, n⟩ : Jb) (.slice A2 a2.length c2) (.slice none 0 0) (.slice none 0 0) ∧ Ps wx b r ∧ Keeps [b] w0 wx ∧ r.length ≤ l.length)
 case first =>
  cases sb with
  | false =>
   go_wp2
   go_meet
   exact ⟨0, r2, by unfold retryP; rw [HSB.out]; rfl, HJ.out, HP.out, HK.out, HLQ.out⟩
  | true =>
   obtain ⟨q, hq⟩ : ∃ q, r2.tail = q := ⟨_, rfl⟩
   have hpq : Ps y4 b q := by rw [← hq]; exact HP.out
   have HPq := Lib.hid hpq
   have HQT := Lib.hid hq
   have HQL : Hid (q.length ≤ r2.length) := Lib.hid (by rw [← hq, List.length_tail]; omega)
   obtain ⟨kd, hkd⟩ : ∃ kd, (hdT q).kind = kd := ⟨_, rfl⟩
   obtain ⟨tx, htx⟩ : ∃ tx, (hdT q).text = tx := ⟨_, rfl⟩
   obtain ⟨at2, hat2⟩ : ∃ at_, (hdT q).at_ = at_ := ⟨_, rfl⟩
   have HKD := Lib.hid hkd
   have HTX := Lib.hid htx
   obtain ⟨g, o, c, c0, z0, lb, lg, -, hn, hc, hc2, k0, k1, k2, hw⟩ := hpq.open'
   rw [hkd] at k0
   rw [htx] at k1
   rw [hat2] at k2
   obtain ⟨hw1, hw2, -⟩ := hw
   rw [htx] at hw1 hw2
   rw [hkd] at hw2
   have HW2 := Lib.hid hw2
   have hn2 : (0 : Int) < (q.length : Int) := by omega
   have HTK := Lib.hid ((Keeps.refl [] y4).alloc (.cells #[.int .i64 kd, .string (bs tx), .int .i64 at2] 97))
   clear hpq hkd htx hat2 hw2 hq HP
   by_cases hk2 : kd = 2
   ·subst hk2
    have HDG : Hid (∀ c ∈ tx, digC c = true) := Lib.hid (HW2.out rfl)
    clear HW2
    rcases ha : Lib.atoiAll tx with n | _ | _
    ·have hpos := atoi_pos ha HDG.out
     have HAT := Lib.hid (fun W hW => atoi_yes ha hw1 W hW)
     by_cases h5 : 5 < n
     ·have hrt : retryP r2 = .error (4, (hdT q).at_) := by
       unfold retryP
       rw [if_pos HSB.out, HQT.out, if_neg (by rw [HKD.out]; simp), HTX.out, ha]
       exact if_pos h5
      have HX : Hid (R = .error (4, (hdT q).at_)) := Lib.hid (by
       have hr := HR.out
       rw [hrt, err_bind] at hr
       exact hr.symm)
      clear hrt
      clear ha hpos
      go_wp2_with fail
      refine (HAT.out _ (((HE.out.one hlo HK.out).quiet HTK.out).env)).mono ?_
      rintro ev w3 ⟨rfl, hk3⟩
      have HK3 := Lib.hid (HTK.out.trans hk3)
      clear hk3
      go_wp2_with fail
      refine (fail_any' 4 _ (HPq.out.keep HK3.out)).mono ?_
      rintro ev w9 ⟨⟨gi, rfl, hb⟩, hk9⟩
      exact ⟨rfl, by rw [HX.out]; exact ⟨gi, rfl, hb⟩, HW0.out.of_nil.trans ((HK.out.trans (HK3.out).of_nil).trans hk9.of_nil)⟩
     ·have HRT : Hid (retryP r2 = .ok (n, q.tail)) := Lib.hid (by
       unfold retryP
       rw [if_pos HSB.out, HQT.out, if_neg (by rw [HKD.out]; simp), HTX.out, ha]
       show (if 5 < n then _ else _) = _
       rw [if_neg h5])
      have hk5q : (hdT q).kind ≠ 5 := by rw [HKD.out]; decide
      have hmore := HPq.out.more hk5q
      have hmore2 : (1 : Int) ≤ (q.length : Int) := by omega
      have hmore3 : (1 : Int) < (c : Int) := by omega
      have HK5Q := Lib.hid hk5q
      clear ha hpos hk5q hmore
      go_wp2_with fail
      refine (HAT.out _ (((HE.out.one hlo HK.out).quiet HTK.out).env)).mono ?_
      rintro ev w3 ⟨rfl, hk3⟩
      have HJ3 := Lib.hid (HJ.out.keep (HTK.out.trans hk3))
      have HP3 := Lib.hid (HPq.out.keep (HTK.out.trans hk3))
      have HK3 := Lib.hid (HK.out.trans (HTK.out.trans hk3).of_nil)
      have jf := HJ3.out.blk.frozen 14
      have jc : w3.cell? ⟨jb, 14, none⟩ = some (.int .i64 0) := HJ3.out.blk.cell 14
      have lj := HJ3.out.blk.lt
      have p0 : w3.cell? ⟨b, 0, none⟩ = some (.slice (some ⟨g, o, none⟩) q.length c) := (HTK.out.trans hk3).cell_of c0 (by simp)
      have pz : w3.frozen? ⟨b, 0, none⟩ = false := ((HTK.out.trans hk3).frozen lb (by simp)).trans z0
      have plb := World.block_lt_of_cell? _ _ p0
      have hkb : Keeps [jb] w3 (w3.setCell ⟨jb, 14, none⟩ (.int .i64 n)) := (Keeps.refl _ _).setCell (.inl (by simp)) _
      have HJ4 : Hid (JbIs (w3.setCell ⟨jb, 14, none⟩ (.int .i64 n)) w0.heap.size jb (⟨at_, 0, a2, [], [], [], ⟨[], zV⟩, ⟨[], zV⟩, n⟩ : Jb) (.slice A2 a2.length c2) (.slice none 0 0) (.slice none 0 0)) := Lib.hid (HJ3.out.box hkb ((HJ3.out.blk.set 14 (.int .i64 n)).congr (by rfl)) rfl rfl rfl)
      have HP4 := Lib.hid (HP3.out.box HJ3.out hkb)
      have HK4 := Lib.hid (HK3.out.box HJB.out hkb)
      have hjne := HJ3.out.blk.ty.ne HP3.out.ty (by decide)
      have HP0 : Hid ((w3.setCell ⟨jb, 14, none⟩ (.int .i64 n)).cell? ⟨b, 0, none⟩ = some (.slice (some ⟨g, o, none⟩) q.length c)) := Lib.hid (hkb.cell_of p0 (by simpa using hjne.symm))
      have HST := Lib.hid (fun n' a d => @Ps.step _ b g o c q HP4.out HP0.out HK5Q.out n' a d)
      clear hk3 hkb HP3 HK3 HJ3
      go_wp2
      go_meet
      have hst := HST.out (q.length - 1) ⟨g, o + 3, none⟩ (c - 1) rfl rfl rfl
      exact ⟨n, q.tail, HRT.out, HJ4.out.ps HP4.out hst.2, hst.1, HK4.out.trans hst.2, by have := HLQ.out; have := HQL.out; rw [List.length_tail]; omega⟩
    all_goals
     have hrt : retryP r2 = .error (4, (hdT q).at_) := by
      unfold retryP
      rw [if_pos HSB.out, HQT.out, if_neg (by rw [HKD.out]; simp), HTX.out, ha]
      try rfl
     have HX : Hid (R = .error (4, (hdT q).at_)) := Lib.hid (by
      have hr := HR.out
      rw [hrt, err_bind] at hr
      exact hr.symm)
     clear hrt
     have HAT := Lib.hid (fun W hW => atoi_none (s := tx) (fun n h => by rw [ha] at h; cases h) hw1 W hW)
     clear ha
     go_wp2_with fail
     refine (HAT.out _ (((HE.out.one hlo HK.out).quiet HTK.out).env)).mono ?_
     rintro ev w3 ⟨⟨n0, t0', p0', rfl⟩, hk3⟩
     have HK3 := Lib.hid (HTK.out.trans hk3)
     clear hk3
     go_wp2_with fail
     refine (fail_any' 4 _ (HPq.out.keep HK3.out)).mono ?_
     rintro ev w9 ⟨⟨gi, rfl, hb⟩, hk9⟩
     exact ⟨rfl, by rw [HX.out]; exact ⟨gi, rfl, hb⟩, HW0.out.of_nil.trans ((HK.out.trans (HK3.out).of_nil).trans hk9.of_nil)⟩
   ·have e2 : (kd != 2) = true := by rw [bne_iff_ne]; exact hk2
    have hrt : retryP r2 = .error (3, (hdT q).at_) := by
     unfold retryP
     rw [if_pos HSB.out, HQT.out, if_pos (by rw [HKD.out]; exact hk2)]
     try rfl
    have HX : Hid (R = .error (3, (hdT q).at_)) := Lib.hid (by
     have hr := HR.out
     rw [hrt, err_bind] at hr
     exact hr.symm)
    clear hrt
    clear hk2 HW2
    go_wp2_with fail
    refine (fail_any' 3 _ (HPq.out.keep HTK.out)).mono ?_
    rintro ev w9 ⟨⟨gi, rfl, hb⟩, hk9⟩
    exact ⟨rfl, by rw [HX.out]; exact ⟨gi, rfl, hb⟩, HW0.out.of_nil.trans ((HK.out.trans (HTK.out).of_nil).trans hk9.of_nil)⟩
 case rest =>
  obtain ⟨n4, r4, hrt, hj, hp, hk, hlr⟩ := hcut
  obtain ⟨yc, rfl⟩ : ∃ y : World, y = wc := ⟨_, rfl⟩
  have hr := HR.out
  rw [hrt, ok_bind] at hr
  try dsimp only at hr
  clear HP HJ HK HR HLQ HSB
  have HR := Lib.hid hr
  have HP := Lib.hid hp
  have HJ := Lib.hid hj
  have HK := Lib.hid hk
  have HLQ := Lib.hid hlr
  clear hp hj hk hr hrt hlr
  rcases hS : mustP [61] r4 with x | r5
  ·have hr := HR.out
   rw [hS, err_bind] at hr
   have HX := Lib.hid hr.symm
   have HC := Lib.hid (must_no hS yc HP.out)
   clear hr hS
   go_wp2_with fail
   refine HC.out.mono ?_
   rintro ev w9 ⟨⟨gi, rfl, hb⟩, hk9⟩
   exact ⟨rfl, by rw [HX.out]; exact ⟨gi, rfl, hb⟩, HW0.out.of_nil.trans (HK.out.trans hk9)⟩
  have hr := HR.out
  rw [hS, ok_bind] at hr
  try dsimp only at hr
  clear HR
  have HR := Lib.hid hr
  clear hr
  have HC := Lib.hid (must_yes hS yc HP.out)
  have HLR : Hid (r5.length ≤ l.length) := Lib.hid (by have := HLQ.out; have := mustP_len hS; omega)
  clear HLQ
  have HLQ := HLR
  clear HLR
  clear hS
  go_wp2_with fail
  refine HC.out.mono ?_
  rintro ev y5 ⟨rfl, hp, hk⟩
  have HJ' := Lib.hid (HJ.out.ps HP.out hk)
  have HK' := Lib.hid (HK.out.trans hk)
  clear HP HJ HK HC
  have HP := Lib.hid hp
  have HJ := HJ'
  have HK := HK'
  clear hp hk HJ' HK'
  have hc := body_any at_ 0 a2 [] [] [] ⟨[], zV⟩ ⟨[], zV⟩ n4 w0 y5 HE.out hlo HP.out HK.out HJB.out HJ.out (by simp) (by simp) (Nat.le_trans HLQ.out HLL.out)
  rcases hS : bodyP (⟨at_, 0, a2, [], [], [], ⟨[], zV⟩, ⟨[], zV⟩, n4⟩ : Jb) r5 with x | ⟨jx, r6⟩
  ·have hr := HR.out
   rw [show job0 at_ a2 n4 = (⟨at_, 0, a2, [], [], [], ⟨[], zV⟩, ⟨[], zV⟩, n4⟩ : Jb) from rfl, hS, err_bind] at hr
   have HX := Lib.hid hr.symm
   rw [hS] at hc
   have HC2 := Lib.hid hc
   clear hr hS hc
   go_wp2_with fail
   refine HC2.out.mono ?_
   rintro ev w9 ⟨⟨gi, rfl, hb⟩, hk9⟩
   exact ⟨rfl, by rw [HX.out]; exact ⟨gi, rfl, hb⟩, HW0.out.of_nil.trans hk9⟩
  have hr := HR.out
  rw [show job0 at_ a2 n4 = (⟨at_, 0, a2, [], [], [], ⟨[], zV⟩, ⟨[], zV⟩, n4⟩ : Jb) from rfl, hS, ok_bind] at hr
  try dsimp only at hr
  clear HR
  have HR := Lib.hid hr
  rw [hS] at hc
  have HC := Lib.hid hc
  clear hr hS hc HLQ
  go_wp2_with fail
  refine HC.out.mono ?_
  rintro ev y6 ⟨⟨rfl, ⟨v6a, v6b, v6c, hj⟩, hp⟩, hk⟩
  clear HP HJ HK HC
  obtain ⟨at3, code3, outs3, ins3, cols3, op3, left3, right3, retry3⟩ := jx
  have HP := Lib.hid hp
  have HJ := Lib.hid hj
  have HK := Lib.hid hk
  clear hp hj hk
  rcases hS : mustP [59] r6 with x | r7
  ·have hr := HR.out
   rw [hS, err_bind] at hr
   have HX := Lib.hid hr.symm
   have HC := Lib.hid (must_no hS y6 HP.out)
   clear hr hS
   go_wp2_with fail
   refine HC.out.mono ?_
   rintro ev w9 ⟨⟨gi, rfl, hb⟩, hk9⟩
   exact ⟨rfl, by rw [HX.out]; exact ⟨gi, rfl, hb⟩, HW0.out.of_nil.trans (HK.out.trans hk9)⟩
  have hr := HR.out
  rw [hS, ok_bind] at hr
  try dsimp only at hr
  clear HR
  have HR := Lib.hid hr
  clear hr
  have HC := Lib.hid (must_yes hS y6 HP.out)
  clear hS
  go_wp2_with fail
  refine HC.out.mono ?_
  rintro ev y7 ⟨rfl, hp, hk⟩
  have HJ' := Lib.hid (HJ.out.ps HP.out hk)
  have HK' := Lib.hid (HK.out.trans hk)
  clear HP HJ HK HC
  have HP := Lib.hid hp
  have HJ := HJ'
  have HK := HK'
  clear hp hk HJ' HK'
  obtain ⟨A2, c2, hv2, -⟩ := own_form HJ.out.o2
  obtain ⟨A3, c3, hv3, -⟩ := own_form HJ.out.o3
  obtain ⟨A4, c4, hv4, -⟩ := own_form HJ.out.o4
  subst hv2 hv3 hv4
  have HRB := Lib.hid (HRB0.out.keep HK.out HRBB.out)
  have HX := Lib.hid HR.out.symm
  clear HR
  have jc0 : y7.cell? ⟨jb, 0, none⟩ = some (.int .i64 at3) := HJ.out.blk.cell 0
  have rc0 : y7.cell? ⟨rb, 0, none⟩ = some (.int .i64 0) := HRB.out.cell 0
  have rf0 := HRB.out.frozen 0
  have jc1 : y7.cell? ⟨jb, 1, none⟩ = some (.int .i64 code3) := HJ.out.blk.cell 1
  have rc1 : y7.cell? ⟨rb, 1, none⟩ = some (.int .i64 0) := HRB.out.cell 1
  have rf1 := HRB.out.frozen 1
  have jc2 : y7.cell? ⟨jb, 2, none⟩ = some (.slice A2 outs3.length c2) := HJ.out.blk.cell 2
  have rc2 : y7.cell? ⟨rb, 2, none⟩ = some (.slice none 0 0) := HRB.out.cell 2
  have rf2 := HRB.out.frozen 2
  have jc3 : y7.cell? ⟨jb, 3, none⟩ = some (.slice A3 ins3.length c3) := HJ.out.blk.cell 3
  have rc3 : y7.cell? ⟨rb, 3, none⟩ = some (.slice none 0 0) := HRB.out.cell 3
  have rf3 := HRB.out.frozen 3
  have jc4 : y7.cell? ⟨jb, 4, none⟩ = some (.slice A4 cols3.length c4) := HJ.out.blk.cell 4
  have rc4 : y7.cell? ⟨rb, 4, none⟩ = some (.slice none 0 0) := HRB.out.cell 4
  have rf4 := HRB.out.frozen 4
  have jc5 : y7.cell? ⟨jb, 5, none⟩ = some (.string (bs op3)) := HJ.out.blk.cell 5
  have rc5 : y7.cell? ⟨rb, 5, none⟩ = some (.string ⟨#[]⟩) := HRB.out.cell 5
  have rf5 := HRB.out.frozen 5
  have jc6 : y7.cell? ⟨jb, 6, none⟩ = some (.string (bs left3.col)) := HJ.out.blk.cell 6
  have rc6 : y7.cell? ⟨rb, 6, none⟩ = some (.string ⟨#[]⟩) := HRB.out.cell 6
  have rf6 := HRB.out.frozen 6
  have jc7 : y7.cell? ⟨jb, 7, none⟩ = some (.int .i64 left3.val.kind) := HJ.out.blk.cell 7
  have rc7 : y7.cell? ⟨rb, 7, none⟩ = some (.int .i64 0) := HRB.out.cell 7
  have rf7 := HRB.out.frozen 7
  have jc8 : y7.cell? ⟨jb, 8, none⟩ = some (.int .i64 left3.val.num) := HJ.out.blk.cell 8
  have rc8 : y7.cell? ⟨rb, 8, none⟩ = some (.int .i64 0) := HRB.out.cell 8
  have rf8 := HRB.out.frozen 8
  have jc9 : y7.cell? ⟨jb, 9, none⟩ = some (.string (bs left3.val.word)) := HJ.out.blk.cell 9
  have rc9 : y7.cell? ⟨rb, 9, none⟩ = some (.string ⟨#[]⟩) := HRB.out.cell 9
  have rf9 := HRB.out.frozen 9
  have jc10 : y7.cell? ⟨jb, 10, none⟩ = some (.string (bs right3.col)) := HJ.out.blk.cell 10
  have rc10 : y7.cell? ⟨rb, 10, none⟩ = some (.string ⟨#[]⟩) := HRB.out.cell 10
  have rf10 := HRB.out.frozen 10
  have jc11 : y7.cell? ⟨jb, 11, none⟩ = some (.int .i64 right3.val.kind) := HJ.out.blk.cell 11
  have rc11 : y7.cell? ⟨rb, 11, none⟩ = some (.int .i64 0) := HRB.out.cell 11
  have rf11 := HRB.out.frozen 11
  have jc12 : y7.cell? ⟨jb, 12, none⟩ = some (.int .i64 right3.val.num) := HJ.out.blk.cell 12
  have rc12 : y7.cell? ⟨rb, 12, none⟩ = some (.int .i64 0) := HRB.out.cell 12
  have rf12 := HRB.out.frozen 12
  have jc13 : y7.cell? ⟨jb, 13, none⟩ = some (.string (bs right3.val.word)) := HJ.out.blk.cell 13
  have rc13 : y7.cell? ⟨rb, 13, none⟩ = some (.string ⟨#[]⟩) := HRB.out.cell 13
  have rf13 := HRB.out.frozen 13
  have jc14 : y7.cell? ⟨jb, 14, none⟩ = some (.int .i64 retry3) := HJ.out.blk.cell 14
  have rc14 : y7.cell? ⟨rb, 14, none⟩ = some (.int .i64 0) := HRB.out.cell 14
  have rf14 := HRB.out.frozen 14
  have lj := HJ.out.blk.lt
  have lr := HRB.out.lt
  go_wp2
  have hb7 := (((((((((((((((HRB.out.set 0 (.int .i64 at3)).set 1 (.int .i64 code3)).set 2 (.slice A2 outs3.length c2)).set 3 (.slice A3 ins3.length c3)).set 4 (.slice A4 cols3.length c4)).set 5 (.string (bs op3))).set 6 (.string (bs left3.col))).set 7 (.int .i64 left3.val.kind)).set 8 (.int .i64 left3.val.num)).set 9 (.string (bs left3.val.word))).set 10 (.string (bs right3.col))).set 11 (.int .i64 right3.val.kind)).set 12 (.int .i64 right3.val.num)).set 13 (.string (bs right3.val.word))).set 14 (.int .i64 retry3))
  have y0' := hb7.cell 0
  have y1' := hb7.cell 1
  have y2' := hb7.cell 2
  have y3' := hb7.cell 3
  have y4' := hb7.cell 4
  have y5' := hb7.cell 5
  have y6' := hb7.cell 6
  have y7' := hb7.cell 7
  have y8' := hb7.cell 8
  have y9' := hb7.cell 9
  have y10' := hb7.cell 10
  have y11' := hb7.cell 11
  have y12' := hb7.cell 12
  have y13' := hb7.cell 13
  have y14' := hb7.cell 14
  refine bodyPost_ret (v := .agg #[.int .i64 at3, .int .i64 code3, .slice A2 outs3.length c2, .slice A3 ins3.length c3, .slice A4 cols3.length c4, .string (bs op3), .string (bs left3.col), .int .i64 left3.val.kind, .int .i64 left3.val.num, .string (bs left3.val.word), .string (bs right3.col), .int .i64 right3.val.kind, .int .i64 right3.val.num, .string (bs right3.val.word), .int .i64 retry3]) (by simp [results, Tryz.results76, go_sem, y0', y1', y2', y3', y4', y5', y6', y7', y8', y9', y10', y11', y12', y13', y14']) rfl ⟨?_, ?_⟩
  ·rw [HX.out]
   have hkr : Keeps [rb] y7 (((((((((((((((y7.setCell ⟨rb, 0, none⟩ (.int .i64 at3)).setCell ⟨rb, 1, none⟩ (.int .i64 code3)).setCell ⟨rb, 2, none⟩ (.slice A2 outs3.length c2)).setCell ⟨rb, 3, none⟩ (.slice A3 ins3.length c3)).setCell ⟨rb, 4, none⟩ (.slice A4 cols3.length c4)).setCell ⟨rb, 5, none⟩ (.string (bs op3))).setCell ⟨rb, 6, none⟩ (.string (bs left3.col))).setCell ⟨rb, 7, none⟩ (.int .i64 left3.val.kind)).setCell ⟨rb, 8, none⟩ (.int .i64 left3.val.num)).setCell ⟨rb, 9, none⟩ (.string (bs left3.val.word))).setCell ⟨rb, 10, none⟩ (.string (bs right3.col))).setCell ⟨rb, 11, none⟩ (.int .i64 right3.val.kind)).setCell ⟨rb, 12, none⟩ (.int .i64 right3.val.num)).setCell ⟨rb, 13, none⟩ (.string (bs right3.val.word))).setCell ⟨rb, 14, none⟩ (.int .i64 retry3)) := ((((((((((((((((Keeps.refl _ _).setCell (.inl (by simp)) _).setCell (.inl (by simp)) _).setCell (.inl (by simp)) _).setCell (.inl (by simp)) _).setCell (.inl (by simp)) _).setCell (.inl (by simp)) _).setCell (.inl (by simp)) _).setCell (.inl (by simp)) _).setCell (.inl (by simp)) _).setCell (.inl (by simp)) _).setCell (.inl (by simp)) _).setCell (.inl (by simp)) _).setCell (.inl (by simp)) _).setCell (.inl (by simp)) _).setCell (.inl (by simp)) _)
   have hL : ∀ x ∈ [rb], OfTy y7 x 45 := fun x hx => by rw [List.mem_singleton.1 hx]; exact HRB.out.ty
   exact ⟨_, _, _, rfl, ⟨own_far (own_low HJ.out.o2 HW0.out.size) hkr hL (by decide), own_far (own_low HJ.out.o3 HW0.out.size) hkr hL (by decide), own_far (own_low HJ.out.o4 HW0.out.size) hkr hL (by decide)⟩, HP.out.far hkr (fun x hx => ⟨45, hL x hx, by decide, by decide⟩)⟩
  ·have hkr : Keeps [rb] y7 (((((((((((((((y7.setCell ⟨rb, 0, none⟩ (.int .i64 at3)).setCell ⟨rb, 1, none⟩ (.int .i64 code3)).setCell ⟨rb, 2, none⟩ (.slice A2 outs3.length c2)).setCell ⟨rb, 3, none⟩ (.slice A3 ins3.length c3)).setCell ⟨rb, 4, none⟩ (.slice A4 cols3.length c4)).setCell ⟨rb, 5, none⟩ (.string (bs op3))).setCell ⟨rb, 6, none⟩ (.string (bs left3.col))).setCell ⟨rb, 7, none⟩ (.int .i64 left3.val.kind)).setCell ⟨rb, 8, none⟩ (.int .i64 left3.val.num)).setCell ⟨rb, 9, none⟩ (.string (bs left3.val.word))).setCell ⟨rb, 10, none⟩ (.string (bs right3.col))).setCell ⟨rb, 11, none⟩ (.int .i64 right3.val.kind)).setCell ⟨rb, 12, none⟩ (.int .i64 right3.val.num)).setCell ⟨rb, 13, none⟩ (.string (bs right3.val.word))).setCell ⟨rb, 14, none⟩ (.int .i64 retry3)) := ((((((((((((((((Keeps.refl _ _).setCell (.inl (by simp)) _).setCell (.inl (by simp)) _).setCell (.inl (by simp)) _).setCell (.inl (by simp)) _).setCell (.inl (by simp)) _).setCell (.inl (by simp)) _).setCell (.inl (by simp)) _).setCell (.inl (by simp)) _).setCell (.inl (by simp)) _).setCell (.inl (by simp)) _).setCell (.inl (by simp)) _).setCell (.inl (by simp)) _).setCell (.inl (by simp)) _).setCell (.inl (by simp)) _).setCell (.inl (by simp)) _)
   exact (HW0.out.of_nil.trans HK.out).trans' hkr (fun x hx hl => by rw [List.mem_singleton.1 hx] at hl; have := HRG.out; omega)
end Go.Proofs.YtnjjajanfedjiaaGreatDoor
namespace Go.Proofs.YtnjjajanfedjiaaGreatDoor
open Go.RowKit Go.BigFrame
attribute [local go_sem] bs_size bs_extract bs_append bs_toList
theorem own_far' {W W' : World} {base n size : Nat} {e : TypeId} {u : Value} {xs : List Value} {L : List Nat} (h : W.ownsRow base e size u n xs) (hk : Keeps L W W') (hL : ∀ x ∈ L, ∃ t, OfTy W x t ∧ e ≠ t) : W'.ownsRow base e size u n xs :=
 own_keep h hk (fun g hg hm => by
  obtain ⟨t, h1, h2⟩ := hL g hm
  exact (own_ty h g hg).ne h1 h2 rfl)
def LstIs {α : Type} (El : World → Nat → List Value → α → Prop) (e : TypeId) (size : Nat) (W : World) (base : Nat) (v : Value) (l : List α) : Prop :=
 ∃ us : List (List Value), us.length = l.length ∧ W.ownsRow base e size v l.length us.flatten ∧ ∀ j (h : j < l.length) (h' : j < us.length), El W base us[j] l[j]
section
variable {α : Type} {El : World → Nat → List Value → α → Prop} {e : TypeId} {size base : Nat} {W W' : World} {v u : Value} {l : List α} {L : List Nat}
theorem LstIs.nil : LstIs El e size W base (.slice none 0 0) ([] : List α) := ⟨[], rfl, World.ownsRow_nil _ _ _ _, fun j h => absurd h (by simp)⟩
theorem LstIs.far (h : LstIs El e size W base v l) (hk : Keeps L W W') (hL : ∀ x ∈ L, ∃ t, OfTy W x t ∧ e ≠ t) (hE : ∀ cs x, El W base cs x → El W' base cs x) : LstIs El e size W' base v l := by
 obtain ⟨us, h1, h2, h3⟩ := h
 exact ⟨us, h1, own_far' h2 hk hL, fun j h h' => hE _ _ (h3 j h h')⟩
theorem LstIs.snoc {us : List (List Value)} {cs : List Value} {x : α} (hul : us.length = l.length) (hel : ∀ j (h : j < l.length) (h' : j < us.length), El W base us[j] l[j]) (hx : El W base cs x) (ho : W.ownsRow base e size u (l.length + 1) (us.flatten ++ cs)) : LstIs El e size W base u (l ++ [x]) := by
 refine ⟨us ++ [cs], by simp [hul], by simpa using ho, fun j h h' => ?_⟩
 by_cases hj : j < l.length
 ·rw [List.getElem_append_left (by omega), List.getElem_append_left hj]
  exact hel j hj (by omega)
 ·have hj' : j = l.length := by simp at h; omega
  subst hj'
  rw [List.getElem_append_right (by omega), List.getElem_append_right (Nat.le_refl _)]
  simpa [hul] using hx
end
def InEl (W : World) (base : Nat) (cs : List Value) (x : In) : Prop := ∃ v, cs = [.int .i64 x.at_, .string (bs x.name), v] ∧ W.ownsRow base 61 2 v x.cols.length (csCells x.cols)
def JbEl (W : World) (base : Nat) (cs : List Value) (x : Jb) : Prop := ∃ v2 v3 v4, cs = (jbCells x v2 v3 v4).toList ∧ JRows W base x v2 v3 v4
def PbEl (_ : World) (_ : Nat) (cs : List Value) (x : Pb) : Prop := cs = [.int .i64 x.at_, .string (bs x.name), .string (bs x.src)]
abbrev InsIs := LstIs InEl 63 3
abbrev JobsIs := LstIs JbEl 45 15
abbrev OutsIs := LstIs PbEl 83 3
def flTys : List TypeId := [9, 61, 63, 45, 83, 26, 92]
def FarOf (S : List TypeId) (L : List Nat) (W W' : World) : Prop := Keeps L W W' ∧ ∀ x ∈ L, ∃ t, OfTy W x t ∧ t ∉ S
theorem FarOf.ne {S : List TypeId} {L : List Nat} {W W' : World} (h : FarOf S L W W') {e : TypeId} (he : e ∈ S) : ∀ x ∈ L, ∃ t, OfTy W x t ∧ e ≠ t := fun x hx => by
 obtain ⟨t, h1, h2⟩ := h.2 x hx
 exact ⟨t, h1, fun e' => h2 (e' ▸ he)⟩
theorem FarOf.mono {S S' : List TypeId} {L : List Nat} {W W' : World} (h : FarOf S L W W') (hs : ∀ e ∈ S', e ∈ S) : FarOf S' L W W' :=
 ⟨h.1, fun x hx => by obtain ⟨t, h1, h2⟩ := h.2 x hx; exact ⟨t, h1, fun h3 => h2 (hs t h3)⟩⟩
theorem FarOf.blk {S : List TypeId} {L : List Nat} {W W' : World} (h : FarOf S L W W') {e : TypeId} {g : Nat} {cs : Array Value} (hb : Blk W g e cs) (he : e ∈ S) : Blk W' g e cs :=
 hb.keep h.1 (fun hm => by obtain ⟨t, h1, h2⟩ := h.ne he g hm; exact hb.ty.ne h1 h2 rfl)
section
variable {W W' : World} {base : Nat} {L : List Nat} {S : List TypeId} {v : Value}
theorem InEl.far (h : FarOf S L W W') (hs : 61 ∈ S) : ∀ cs x, InEl W base cs x → InEl W' base cs x := fun _ _ ⟨v, h1, h2⟩ => ⟨v, h1, own_far' h2 h.1 (h.ne hs)⟩
theorem JbEl.far (h : FarOf S L W W') (hs : 9 ∈ S) : ∀ cs x, JbEl W base cs x → JbEl W' base cs x := fun _ _ ⟨v2, v3, v4, h1, h2⟩ => ⟨v2, v3, v4, h1, ⟨own_far' h2.o2 h.1 (h.ne hs), own_far' h2.o3 h.1 (h.ne hs), own_far' h2.o4 h.1 (h.ne hs)⟩⟩
theorem InsIs.far {l : List In} (hl : InsIs W base v l) (h : FarOf S L W W') (hs : 61 ∈ S) (hs2 : 63 ∈ S) : InsIs W' base v l := LstIs.far hl h.1 (h.ne hs2) (InEl.far h hs)
theorem JobsIs.far {l : List Jb} (hl : JobsIs W base v l) (h : FarOf S L W W') (hs : 9 ∈ S) (hs2 : 45 ∈ S) : JobsIs W' base v l := LstIs.far hl h.1 (h.ne hs2) (JbEl.far h hs)
theorem OutsIs.far {l : List Pb} (hl : OutsIs W base v l) (h : FarOf S L W W') (hs2 : 83 ∈ S) : OutsIs W' base v l := LstIs.far hl h.1 (h.ne hs2) (fun _ _ h => h)
end
structure FlSt (W : World) (base pb rb fb b : Nat) (v0 v1 v2 : Value) (ins : List In) (jobs : List Jb) (outs : List Pb) : Prop where
 pbk : Blk W pb 92 #[.pointer (some ⟨b, 0, none⟩)]
 rbk : Blk W rb 26 #[.slice none 0 0, .slice none 0 0, .slice none 0 0]
 fbk : Blk W fb 26 #[v0, v1, v2]
 ne : rb ≠ fb
 lo : base ≤ fb
 i0 : InsIs W base v0 ins
 i1 : JobsIs W base v1 jobs
 i2 : OutsIs W base v2 outs
section
variable {W W' W7 : World} {base pb rb fb b k : Nat} {v0 v1 v2 u : Value} {ins : List In} {jobs : List Jb} {outs : List Pb} {L : List Nat} {l : List Tk} {o : Obj} {cs : List Value} {us : List (List Value)}
theorem FlSt.far (h : FlSt W base pb rb fb b v0 v1 v2 ins jobs outs) (hf : FarOf flTys L W W') : FlSt W' base pb rb fb b v0 v1 v2 ins jobs outs :=
 ⟨hf.blk h.pbk (by decide), hf.blk h.rbk (by decide), hf.blk h.fbk (by decide), h.ne, h.lo, h.i0.far hf (by decide) (by decide), h.i1.far hf (by decide) (by decide), h.i2.far hf (by decide)⟩
theorem FlSt.keep (h : FlSt W base pb rb fb b v0 v1 v2 ins jobs outs) (hk : Keeps [] W W') : FlSt W' base pb rb fb b v0 v1 v2 ins jobs outs :=
 h.far ⟨hk, fun x hx => by cases hx⟩
theorem FlSt.ps (h : FlSt W base pb rb fb b v0 v1 v2 ins jobs outs) (hp : Ps W b l) (hk : Keeps [b] W W') : FlSt W' base pb rb fb b v0 v1 v2 ins jobs outs :=
 h.far ⟨hk, fun x hx => ⟨94, by rw [List.mem_singleton.1 hx]; exact hp.ty, by decide⟩⟩
theorem grown_set {e : TypeId} {S : List TypeId} (h : FlSt W base pb rb fb b v0 v1 v2 ins jobs outs) {row : Option Nat} (hg : (W.alloc o).grownBy W7 row) (hr : ∀ x, row = some x → OfTy W x e) (he : e ∉ S) (hf : 26 ∉ S) :
  FarOf S (row.toList ++ [fb]) W (W7.setCell ⟨fb, k, none⟩ u) := by
 refine ⟨(Keeps.grown ((Keeps.refl _ W).alloc o) hg (fun g hg => .inl (by rw [hg]; simp))).setCell (.inl (by simp)) _, fun x hx => ?_⟩
 rcases List.mem_append.1 hx with hx | hx
 ·cases row with
  | none => cases hx
  | some y => simp at hx; exact ⟨e, hr x (by rw [hx]), he⟩
 ·rw [List.mem_singleton.1 hx]
  exact ⟨_, h.fbk.ty, hf⟩
theorem FlSt.fbk7 {e : TypeId} (h : FlSt W base pb rb fb b v0 v1 v2 ins jobs outs) {row : Option Nat} (hg : (W.alloc o).grownBy W7 row) (hr : ∀ x, row = some x → OfTy W x e) (he : e ≠ 26) : Blk W7 fb 26 #[v0, v1, v2] :=
 (hg.block fb (h.fbk.alloc o).lt (fun e' => (hr fb e'.symm).ne h.fbk.ty he rfl)).trans (h.fbk.alloc o)
theorem FlSt.keeps7 {w : World} (h : FlSt W w.heap.size pb rb fb b v0 v1 v2 ins jobs outs) (hk : Keeps [b] w W) {row : Option Nat} (hg : (W.alloc o).grownBy W7 row) (hr : ∀ x, row = some x → w.heap.size ≤ x) : Keeps [b] w (W7.setCell ⟨fb, k, none⟩ u) :=
 ((hk.alloc o).grown hg (fun x hx => .inr (hr x hx))).setCell (.inr h.lo) _
theorem own_set7 {e : TypeId} {size n : Nat} {xs : List Value} (h : FlSt W base pb rb fb b v0 v1 v2 ins jobs outs) {row : Option Nat} (hg : (W.alloc o).grownBy W7 row) (hr : ∀ x, row = some x → OfTy W x e) (he : e ≠ 26) (hown : W7.ownsRow base e size u n xs) {u' : Value} : (W7.setCell ⟨fb, k, none⟩ u').ownsRow base e size u n xs :=
 own_far' (L := [fb]) hown ((Keeps.refl _ _).setCell (.inl (by simp)) _) (fun x hx => by rw [List.mem_singleton.1 hx]; exact ⟨_, (h.fbk7 hg hr he).ty, he⟩)
theorem ps7 {e : TypeId} (h : FlSt W base pb rb fb b v0 v1 v2 ins jobs outs) (hp : Ps W b l) {row : Option Nat} (hg : (W.alloc o).grownBy W7 row) (hr : ∀ x, row = some x → OfTy W x e) (he1 : e ≠ 94) (he2 : e ≠ 97) : Ps (W7.setCell ⟨fb, k, none⟩ u) b l := by
 have hf := grown_set (S := [94, 97]) (k := k) (u := u) h hg hr (by simp [he1, he2]) (by decide)
 exact hp.far hf.1 (fun x hx => by obtain ⟨t, h1, h2⟩ := hf.2 x hx; exact ⟨t, h1, fun e => h2 (by simp [e]), fun e => h2 (by simp [e])⟩)
theorem set3_0 {W : World} {g : Nat} {e : TypeId} {a b c u : Value} (h : Blk W g e #[a, b, c]) : Blk (W.setCell ⟨g, 0, none⟩ u) g e #[u, b, c] := (h.set 0 u).congr rfl
theorem set3_1 {W : World} {g : Nat} {e : TypeId} {a b c u : Value} (h : Blk W g e #[a, b, c]) : Blk (W.setCell ⟨g, 1, none⟩ u) g e #[a, u, c] := (h.set 1 u).congr rfl
theorem set3_2 {W : World} {g : Nat} {e : TypeId} {a b c u : Value} (h : Blk W g e #[a, b, c]) : Blk (W.setCell ⟨g, 2, none⟩ u) g e #[a, b, u] := (h.set 2 u).congr rfl
theorem FlSt.app0 {x : In} (h : FlSt W base pb rb fb b v0 v1 v2 ins jobs outs) (hul : us.length = ins.length) (ho : W.ownsRow base 63 3 v0 ins.length us.flatten) (hel : ∀ j (h : j < ins.length) (h' : j < us.length), InEl W base us[j] ins[j]) (hx : InEl W base cs x) (hg : (W.alloc o).grownBy W7 v0.ownBlock) (hown : W7.ownsRow base 63 3 u (ins.length + 1) (us.flatten ++ cs)) : FlSt (W7.setCell ⟨fb, 0, none⟩ u) base pb rb fb b u v1 v2 (ins ++ [x]) jobs outs := by
 have hr := own_ty ho
 have hf := grown_set (S := [9, 61, 45, 83, 92]) (k := 0) (u := u) h hg hr (by decide) (by decide)
 have hrb : Blk (W7.setCell ⟨fb, 0, none⟩ u) rb 26 #[.slice none 0 0, .slice none 0 0, .slice none 0 0] := h.rbk.keep hf.1 (fun hm => by
  rcases List.mem_append.1 hm with hm | hm
  ·exact (hr rb (by simpa using hm)).ne h.rbk.ty (by decide) rfl
  ·exact h.ne (List.mem_singleton.1 hm))
 exact ⟨hf.blk h.pbk (by decide), hrb, set3_0 (h.fbk7 hg hr (by decide)), h.ne, h.lo, LstIs.snoc hul (fun j h1 h2 => InEl.far hf (by decide) _ _ (hel j h1 h2)) (InEl.far hf (by decide) _ _ hx) (own_set7 h hg hr (by decide) hown), h.i1.far hf (by decide) (by decide), h.i2.far hf (by decide)⟩
theorem FlSt.app1 {x : Jb} (h : FlSt W base pb rb fb b v0 v1 v2 ins jobs outs) (hul : us.length = jobs.length) (ho : W.ownsRow base 45 15 v1 jobs.length us.flatten) (hel : ∀ j (h : j < jobs.length) (h' : j < us.length), JbEl W base us[j] jobs[j]) (hx : JbEl W base cs x) (hg : (W.alloc o).grownBy W7 v1.ownBlock) (hown : W7.ownsRow base 45 15 u (jobs.length + 1) (us.flatten ++ cs)) : FlSt (W7.setCell ⟨fb, 1, none⟩ u) base pb rb fb b v0 u v2 ins (jobs ++ [x]) outs := by
 have hr := own_ty ho
 have hf := grown_set (S := [9, 61, 63, 83, 92]) (k := 1) (u := u) h hg hr (by decide) (by decide)
 have hrb : Blk (W7.setCell ⟨fb, 1, none⟩ u) rb 26 #[.slice none 0 0, .slice none 0 0, .slice none 0 0] := h.rbk.keep hf.1 (fun hm => by
  rcases List.mem_append.1 hm with hm | hm
  ·exact (hr rb (by simpa using hm)).ne h.rbk.ty (by decide) rfl
  ·exact h.ne (List.mem_singleton.1 hm))
 exact ⟨hf.blk h.pbk (by decide), hrb, set3_1 (h.fbk7 hg hr (by decide)), h.ne, h.lo, h.i0.far hf (by decide) (by decide), LstIs.snoc hul (fun j h1 h2 => JbEl.far hf (by decide) _ _ (hel j h1 h2)) (JbEl.far hf (by decide) _ _ hx) (own_set7 h hg hr (by decide) hown), h.i2.far hf (by decide)⟩
theorem FlSt.app2 {x : Pb} (h : FlSt W base pb rb fb b v0 v1 v2 ins jobs outs) (hul : us.length = outs.length) (ho : W.ownsRow base 83 3 v2 outs.length us.flatten) (hel : ∀ j (h : j < outs.length) (h' : j < us.length), PbEl W base us[j] outs[j]) (hx : PbEl W base cs x) (hg : (W.alloc o).grownBy W7 v2.ownBlock) (hown : W7.ownsRow base 83 3 u (outs.length + 1) (us.flatten ++ cs)) : FlSt (W7.setCell ⟨fb, 2, none⟩ u) base pb rb fb b v0 v1 u ins jobs (outs ++ [x]) := by
 have hr := own_ty ho
 have hf := grown_set (S := [9, 61, 63, 45, 92]) (k := 2) (u := u) h hg hr (by decide) (by decide)
 have hrb : Blk (W7.setCell ⟨fb, 2, none⟩ u) rb 26 #[.slice none 0 0, .slice none 0 0, .slice none 0 0] := h.rbk.keep hf.1 (fun hm => by
  rcases List.mem_append.1 hm with hm | hm
  ·exact (hr rb (by simpa using hm)).ne h.rbk.ty (by decide) rfl
  ·exact h.ne (List.mem_singleton.1 hm))
 exact ⟨hf.blk h.pbk (by decide), hrb, set3_2 (h.fbk7 hg hr (by decide)), h.ne, h.lo, h.i0.far hf (by decide) (by decide), h.i1.far hf (by decide) (by decide), LstIs.snoc hul (fun j h1 h2 => hel j h1 h2) hx (own_set7 h hg hr (by decide) hown)⟩
end
def flow3 (a : List In) (b : List Jb) (p : List Pb × List Tk) : Except (Int × Int) (Fl × List Tk) := .ok (⟨a, b, p.1⟩, p.2)
def flow2 (a : List In) (p : List Jb × List Tk) : Except (Int × Int) (Fl × List Tk) := manyP [111, 117, 116] outP p.2.length p.2 [] >>= flow3 a p.1
def flow1 (p : List In × List Tk) : Except (Int × Int) (Fl × List Tk) := manyP [106, 111, 98] jobP p.2.length p.2 [] >>= flow2 p.1
theorem flowP_eq (l : List Tk) : flowP l = manyP [105, 110] inputP l.length l [] >>= flow1 := by
 unfold flowP
 rcases manyP [105, 110] inputP l.length l [] with x | ⟨a, r⟩
 ·rfl
 ·rw [ok_bind, ok_bind]
  show _ = manyP [106, 111, 98] jobP r.length r [] >>= flow2 a
  dsimp only
  rcases manyP [106, 111, 98] jobP r.length r [] with x | ⟨b, r2⟩
  ·rfl
  ·rw [ok_bind, ok_bind]
   show _ = manyP [111, 117, 116] outP r2.length r2 [] >>= flow3 a b
   dsimp only
   rcases manyP [111, 117, 116] outP r2.length r2 [] with x | ⟨c, r3⟩ <;> rfl
theorem many_no {α : Type} {w : Bs} {one : List Tk → Except (Int × Int) (α × List Tk)} {n : Nat} {q : List Tk} {acc : List α} (h : seeP w q = false) : manyP w one n q acc = .ok (acc, q) := by
 cases n with
 | zero => rfl
 | succ n => unfold manyP; rw [h]; rfl
theorem many_full {α : Type} {w : Bs} {one : List Tk → Except (Int × Int) (α × List Tk)} {n : Nat} {q : List Tk} {acc : List α} (h : seeP w q = true) (hn : 0 < n) (hl : acc.length = 16) : manyP w one n q acc = .error (4, (hdT q).at_) := by
 obtain ⟨n, rfl⟩ : ∃ m, n = m + 1 := ⟨n - 1, by omega⟩
 unfold manyP
 rw [h, if_pos rfl, if_pos hl]
 rfl
theorem many_err {α : Type} {w : Bs} {one : List Tk → Except (Int × Int) (α × List Tk)} {n : Nat} {q : List Tk} {acc : List α} {x : Int × Int} (h : seeP w q = true) (hn : 0 < n) (hl : acc.length ≠ 16) (ho : one q = .error x) : manyP w one n q acc = .error x := by
 obtain ⟨n, rfl⟩ : ∃ m, n = m + 1 := ⟨n - 1, by omega⟩
 unfold manyP
 rw [h, if_pos rfl, if_neg hl, ho]
 rfl
theorem many_ok {α : Type} {w : Bs} {one : List Tk → Except (Int × Int) (α × List Tk)} {n : Nat} {q r : List Tk} {acc : List α} {x : α} (h : seeP w q = true) (hn : 0 < n) (hl : acc.length ≠ 16) (ho : one q = .ok (x, r)) : manyP w one n q acc = manyP w one (n - 1) r (acc ++ [x]) := by
 obtain ⟨n, rfl⟩ : ∃ m, n = m + 1 := ⟨n - 1, by omega⟩
 conv => lhs; unfold manyP
 rw [h, if_pos rfl, if_neg hl, ho]
 rfl
def FlowOut (R : Except (Int × Int) (Fl × List Tk)) (b base : Nat) (e : Ending) (w' : World) : Prop := match R with
 | .ok (f, r) => ∃ v0 v1 v2, e = .returned (.agg #[v0, v1, v2]) ∧ InsIs w' base v0 f.ins ∧ JobsIs w' base v1 f.jobs ∧ OutsIs w' base v2 f.outs ∧ Ps w' b r
 | .error x => Thrown x e w'
theorem full_yes {W : World} {pb b : Nat} {l : List Tk} (n : Nat) (hq : Blk W pb 92 #[.pointer (some ⟨b, 0, none⟩)]) (h : Ps W b l) (hn : n = 16) :
  Calls Tryz.prog 73 #[.int .i64 n, .pointer (some ⟨pb, 0, none⟩)] W fun e W' => Thrown (4, (hdT l).at_) e W' ∧ Keeps [] W W' := by
 have p0 : W.cell? ⟨pb, 0, none⟩ = some (.pointer (some ⟨b, 0, none⟩)) := hq.cell 0
 have HF := Lib.hid (fail_any' 4 W h)
 have lp := hq.lt
 have t1 : ((n : Int) == 16) = true := by rw [beq_iff_eq]; omega
 clear hq h hn
 go_enter Tryz.func73, Tryz.ntmps73
 go_wp2_with fail
 refine HF.out.mono ?_
 rintro ev w9 ⟨⟨gi, rfl, hb⟩, hk9⟩
 exact ⟨rfl, ⟨gi, rfl, hb⟩, hk9⟩
theorem full_no {W : World} {pb b : Nat} {l : List Tk} (n : Nat) (hq : Blk W pb 92 #[.pointer (some ⟨b, 0, none⟩)]) (_h : Ps W b l) (hn : n ≠ 16) :
  Calls Tryz.prog 73 #[.int .i64 n, .pointer (some ⟨pb, 0, none⟩)] W fun e W' => e = .returned (.tuple #[]) ∧ W = W' := by
 have p0 : W.cell? ⟨pb, 0, none⟩ = some (.pointer (some ⟨b, 0, none⟩)) := hq.cell 0
 have lp := hq.lt
 have t1 : ((n : Int) == 16) = false := by rw [beq_eq_false_iff_ne]; omega
 clear hq _h hn
 go_enter Tryz.func73, Tryz.ntmps73
 go_wp2
 first | go_end0 | refine bodyPost_ret (results_none rfl _ _ _) rfl ?_
 exact ⟨rfl, rfl⟩
end Go.Proofs.YtnjjajanfedjiaaGreatDoor
namespace Go.Proofs.YtnjjajanfedjiaaGreatDoor
theorem bind_ok {E α β : Type} {x : Except E α} {f : α → Except E β} {c : β} (h : (x >>= f) = .ok c) : ∃ a, x = .ok a ∧ f a = .ok c := by
 rcases x with e | a
 ·cases h
 ·exact ⟨a, rfl, h⟩
theorem colsGo_le : ∀ (n : Nat) {l r : List Tk} {acc cs : List Cl}, colsGo n l acc = .ok (cs, r) → r.length ≤ l.length
 | 0, l, r, acc, cs, h => by
  injection h with h
  injection h with _ h
  rw [h]
  exact Nat.le_refl _
 | n + 1, l, r, acc, cs, h => by
  rw [colsGo_succ] at h
  obtain ⟨⟨s, r1⟩, h1, h⟩ := bind_ok h
  obtain ⟨⟨k, r2⟩, h2, h⟩ := bind_ok h
  dsimp only at h h2
  have e1 := nameP_len h1
  have e2 := oneP_len h2
  split at h
  ·have := colsGo_le n h
   rw [List.length_tail] at this
   omega
  ·injection h with h
   injection h with _ h
   subst h
   omega
theorem ofP_le {j j2 : Jb} {l r : List Tk} (h : ofP j l = .ok (j2, r)) : r.length ≤ l.length := by
 unfold ofP at h
 obtain ⟨⟨s0, q0⟩, h0, h⟩ := bind_ok h
 try dsimp only at h
 have e0 := nameP_len h0
 obtain ⟨q1, h1, h⟩ := bind_ok h
 try dsimp only at h
 have e1 := mustP_len h1
 obtain ⟨⟨s2, q2⟩, h2, h⟩ := bind_ok h
 try dsimp only at h
 have e2 := nameP_len h2
 injection h with h
 injection h with _ h
 subst h
 first | omega | (simp only [List.length_tail] at *; omega)
theorem whereP_le {j j2 : Jb} {l r : List Tk} (h : whereP j l = .ok (j2, r)) : r.length ≤ l.length := by
 unfold whereP at h
 obtain ⟨q0, h0, h⟩ := bind_ok h
 try dsimp only at h
 have e0 := mustP_len h0
 obtain ⟨⟨s1, q1⟩, h1, h⟩ := bind_ok h
 try dsimp only at h
 have e1 := nameP_len h1
 obtain ⟨⟨s2, q2⟩, h2, h⟩ := bind_ok h
 try dsimp only at h
 have e2 := oneP_len h2
 obtain ⟨⟨s3, q3⟩, h3, h⟩ := bind_ok h
 try dsimp only at h
 have e3 := argP_le h3
 injection h with h
 injection h with _ h
 subst h
 first | omega | (simp only [List.length_tail] at *; omega)
theorem setP_le {j j2 : Jb} {l r : List Tk} (h : setP j l = .ok (j2, r)) : r.length ≤ l.length := by
 unfold setP at h
 obtain ⟨q0, h0, h⟩ := bind_ok h
 try dsimp only at h
 have e0 := mustP_len h0
 obtain ⟨⟨s1, q1⟩, h1, h⟩ := bind_ok h
 try dsimp only at h
 have e1 := nameP_len h1
 obtain ⟨q2, h2, h⟩ := bind_ok h
 try dsimp only at h
 have e2 := mustP_len h2
 obtain ⟨⟨s3, q3⟩, h3, h⟩ := bind_ok h
 try dsimp only at h
 have e3 := argP_le h3
 obtain ⟨⟨s4, q4⟩, h4, h⟩ := bind_ok h
 try dsimp only at h
 have e4 := oneP_len h4
 obtain ⟨⟨s5, q5⟩, h5, h⟩ := bind_ok h
 try dsimp only at h
 have e5 := argP_le h5
 injection h with h
 injection h with _ h
 subst h
 first | omega | (simp only [List.length_tail] at *; omega)
theorem byP_le {j j2 : Jb} {l r : List Tk} (h : byP j l = .ok (j2, r)) : r.length ≤ l.length := by
 unfold byP at h
 obtain ⟨q0, h0, h⟩ := bind_ok h
 try dsimp only at h
 have e0 := mustP_len h0
 obtain ⟨⟨s1, q1⟩, h1, h⟩ := bind_ok h
 try dsimp only at h
 have e1 := namesP_le h1
 injection h with h
 injection h with _ h
 subst h
 first | omega | (simp only [List.length_tail] at *; omega)
theorem groupP_le {j j2 : Jb} {l r : List Tk} (h : groupP j l = .ok (j2, r)) : r.length ≤ l.length := by
 unfold groupP at h
 obtain ⟨q0, h0, h⟩ := bind_ok h
 try dsimp only at h
 have e0 := mustP_len h0
 obtain ⟨⟨s1, q1⟩, h1, h⟩ := bind_ok h
 try dsimp only at h
 have e1 := nameP_len h1
 obtain ⟨⟨s2, q2⟩, h2, h⟩ := bind_ok h
 try dsimp only at h
 have e2 := oneP_len h2
 obtain ⟨⟨s3, q3⟩, h3, h⟩ := bind_ok h
 try dsimp only at h
 have e3 := nameP_len h3
 injection h with h
 injection h with _ h
 subst h
 first | omega | (simp only [List.length_tail] at *; omega)
theorem joinP_le {j j2 : Jb} {l r : List Tk} (h : joinP j l = .ok (j2, r)) : r.length ≤ l.length := by
 unfold joinP at h
 obtain ⟨⟨s, r1⟩, h1, h⟩ := bind_ok h
 obtain ⟨r2, h2, h⟩ := bind_ok h
 have e1 := ofP_le h1
 have e2 := mustP_len h2
 have e3 := ofP_le h
 omega
theorem unionP_le {j j2 : Jb} {l r : List Tk} (h : unionP j l = .ok (j2, r)) : r.length ≤ l.length := by
 unfold unionP at h
 obtain ⟨⟨s0, q0⟩, h0, h⟩ := bind_ok h
 try dsimp only at h
 have e0 := nameP_len h0
 obtain ⟨q1, h1, h⟩ := bind_ok h
 try dsimp only at h
 have e1 := mustP_len h1
 obtain ⟨⟨s2, q2⟩, h2, h⟩ := bind_ok h
 try dsimp only at h
 have e2 := nameP_len h2
 injection h with h
 injection h with _ h
 subst h
 first | omega | (simp only [List.length_tail] at *; omega)
theorem restP_le {j j2 : Jb} {l r : List Tk} (h : restP j l = .ok (j2, r)) : r.length ≤ l.length := by
 unfold restP at h
 split at h
 ·exact whereP_le h
 split at h
 ·exact setP_le h
 split at h
 ·exact byP_le h
 split at h
 ·exact groupP_le h
 injection h with h
 injection h with _ h
 rw [h]
 exact Nat.le_refl _
theorem bodyP_le {j j2 : Jb} {l r : List Tk} (h : bodyP j l = .ok (j2, r)) : r.length ≤ l.length := by
 unfold bodyP at h
 have ht : l.tail.length ≤ l.length := by rw [List.length_tail]; omega
 split at h
 ·cases h
 split at h
 ·exact Nat.le_trans (joinP_le h) ht
 split at h
 ·exact Nat.le_trans (unionP_le h) ht
 obtain ⟨⟨s, r1⟩, h1, h⟩ := bind_ok h
 have e1 := nameP_len h1
 have e2 := restP_le h
 omega
theorem retryP_le {l r : List Tk} {n : Int} (h : retryP l = .ok (n, r)) : r.length ≤ l.length := by
 unfold retryP at h
 split at h
 ·split at h
  ·cases h
  ·split at h
   ·split at h
    ·cases h
    ·injection h with h
     injection h with _ h
     rw [← h, List.length_tail, List.length_tail]
     omega
   ·cases h
 ·injection h with h
  injection h with _ h
  rw [h]
  exact Nat.le_refl _
theorem inputP_le {x : In} {l r : List Tk} (hl : 0 < l.length) (h : inputP l = .ok (x, r)) : r.length < l.length := by
 unfold inputP at h
 obtain ⟨q0, h0, h⟩ := bind_ok h
 try dsimp only at h
 have e0 := mustP_len h0
 obtain ⟨⟨s1, q1⟩, h1, h⟩ := bind_ok h
 try dsimp only at h
 have e1 := nameP_len h1
 obtain ⟨q2, h2, h⟩ := bind_ok h
 try dsimp only at h
 have e2 := mustP_len h2
 obtain ⟨⟨s3, q3⟩, h3, h⟩ := bind_ok h
 try dsimp only at h
 have e3 := colsGo_le _ h3
 obtain ⟨q4, h4, h⟩ := bind_ok h
 try dsimp only at h
 have e4 := mustP_len h4
 injection h with h
 injection h with _ h
 subst h
 first | omega | (simp only [List.length_tail] at *; omega)
theorem jobP_le {x : Jb} {l r : List Tk} (hl : 0 < l.length) (h : jobP l = .ok (x, r)) : r.length < l.length := by
 unfold jobP at h
 obtain ⟨q0, h0, h⟩ := bind_ok h
 try dsimp only at h
 have e0 := mustP_len h0
 obtain ⟨⟨s1, q1⟩, h1, h⟩ := bind_ok h
 try dsimp only at h
 have e1 := namesP_le h1
 obtain ⟨⟨s2, q2⟩, h2, h⟩ := bind_ok h
 try dsimp only at h
 have e2 := retryP_le h2
 obtain ⟨q3, h3, h⟩ := bind_ok h
 try dsimp only at h
 have e3 := mustP_len h3
 obtain ⟨⟨s4, q4⟩, h4, h⟩ := bind_ok h
 try dsimp only at h
 have e4 := bodyP_le h4
 obtain ⟨q5, h5, h⟩ := bind_ok h
 try dsimp only at h
 have e5 := mustP_len h5
 injection h with h
 injection h with _ h
 subst h
 first | omega | (simp only [List.length_tail] at *; omega)
theorem outP_le {x : Pb} {l r : List Tk} (hl : 0 < l.length) (h : outP l = .ok (x, r)) : r.length < l.length := by
 unfold outP at h
 obtain ⟨q0, h0, h⟩ := bind_ok h
 try dsimp only at h
 have e0 := mustP_len h0
 obtain ⟨⟨s1, q1⟩, h1, h⟩ := bind_ok h
 try dsimp only at h
 have e1 := nameP_len h1
 obtain ⟨q2, h2, h⟩ := bind_ok h
 try dsimp only at h
 have e2 := mustP_len h2
 obtain ⟨⟨s3, q3⟩, h3, h⟩ := bind_ok h
 try dsimp only at h
 have e3 := nameP_len h3
 obtain ⟨q4, h4, h⟩ := bind_ok h
 try dsimp only at h
 have e4 := mustP_len h4
 injection h with h
 injection h with _ h
 subst h
 first | omega | (simp only [List.length_tail] at *; omega)
end Go.Proofs.YtnjjajanfedjiaaGreatDoor
