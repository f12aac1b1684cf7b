/- The parser's job. strings.Builder, at this program: WriteString, String. -/
import Derived.Test.YtdmboaoeholkpaaDoorFlwM11
import Derived.Test.YtdmboaoeholkpaaDoorProg
import Derived.Test.YtdmboaoeholkpaaDoorFlwM1
import Derived.Test.YtdmboaoeholkpaaDoorFlwM2
import Derived.Shelf.Strings.Builder1
import Derived.Lib.OthersKept
namespace Go.Proofs.YtdmboaoeholkpaaDoor
open Go.RowKit Go.BigFrame
attribute [local go_sem] bs_size bs_extract bs_append bs_toList
theorem namesGo_le : ∀ (n : Nat) {l r : List Tk} {acc ns : List Bs}, namesGo n l acc = .ok (ns, r) → r.length ≤ l.length
  | 0, l, r, acc, ns, h => by
    injection h with h
    injection h with _ h
    rw [h]
    exact Nat.le_refl _
  | n + 1, l, r, acc, ns, h => by
    unfold namesGo at h
    split at h
    · rcases h1 : nameP l.tail with x | ⟨s, r1⟩
      · rw [h1] at h; cases h
      · rw [h1, ok_bind] at h
        have := namesGo_le n h
        have h2 := nameP_len h1
        rw [List.length_tail] at h2
        omega
    · injection h with h
      injection h with _ h
      rw [h]
      exact Nat.le_refl _
theorem namesP_le {l r : List Tk} {ns : List Bs} (h : namesP l = .ok (ns, r)) : r.length ≤ l.length := by
  unfold namesP at h
  rcases h1 : nameP l with x | ⟨s, r1⟩
  · rw [h1] at h; cases h
  · rw [h1, ok_bind] at h
    have := namesGo_le _ h
    have h2 := nameP_len h1
    omega
/-- A job's rows of texts. -/
structure JRows (W : World) (base : Nat) (j : Jb) (v2 v3 v4 : Value) : Prop where
  o2 : W.ownsRow base 9 1 v2 j.outs.length (strs j.outs)
  o3 : W.ownsRow base 9 1 v3 j.ins.length (strs j.ins)
  o4 : W.ownsRow base 9 1 v4 j.cols.length (strs j.cols)
/-- What job hands back. -/
def JobOut (R : Except (Int × Int) (Jb × List Tk)) (b base : Nat) (e : Ending) (w' : World) : Prop := match R with
  | .ok (j, r) => ∃ v2 v3 v4, e = .returned (.agg (jbCells j v2 v3 v4)) ∧ JRows w' base j v2 v3 v4 ∧ Ps w' b r
  | .error x => Thrown x e w'
set_option maxRecDepth 100000 in
set_option maxHeartbeats 8000000 in
theorem job_any {l : List Tk} {b lo : Nat} (w : World) (hE : FB w lo) (hlo : lo ≤ b) (h : Ps w b l) (hll : l.length ≤ 1000000) :
    Calls Tryd.prog 22 #[.pointer (some ⟨b, 0, none⟩)] w fun e w' => JobOut (jobP l) b w.heap.size e w' ∧ Keeps [b] w w' := by
  obtain ⟨R, hR⟩ : ∃ R, jobP l = R := ⟨_, rfl⟩
  rw [hR]
  unfold jobP at hR
  obtain ⟨at_, hat⟩ : ∃ at_, (hdT l).at_ = at_ := ⟨_, rfl⟩
  rw [hat] at hR
  have HR := Lib.hid hR
  have HLL := Lib.hid hll
  have HLQ := Lib.hid (Nat.le_refl l.length)
  have HRG := Lib.hid (Nat.le_refl w.heap.size)
  have hrb := Blk.new w 71 #[.int .i64 0, .int .i64 0, .slice none 0 0, .slice none 0 0, .slice none 0 0, .string ⟨#[]⟩, .string ⟨#[]⟩, .int .i64 0, .int .i64 0, .string ⟨#[]⟩, .string ⟨#[]⟩, .int .i64 0, .int .i64 0, .string ⟨#[]⟩, .int .i64 0]
  have hk0 := (Keeps.refl [] w).alloc (.cells #[.int .i64 0, .int .i64 0, .slice none 0 0, .slice none 0 0, .slice none 0 0, .string ⟨#[]⟩, .string ⟨#[]⟩, .int .i64 0, .int .i64 0, .string ⟨#[]⟩, .string ⟨#[]⟩, .int .i64 0, .int .i64 0, .string ⟨#[]⟩, .int .i64 0] 71)
  have hsz := fsz w (.cells #[.int .i64 0, .int .i64 0, .slice none 0 0, .slice none 0 0, .slice none 0 0, .string ⟨#[]⟩, .string ⟨#[]⟩, .int .i64 0, .int .i64 0, .string ⟨#[]⟩, .string ⟨#[]⟩, .int .i64 0, .int .i64 0, .string ⟨#[]⟩, .int .i64 0] 71)
  have HRBB : Hid (w.heap.size ∉ [b]) := Lib.hid (by have := h.lt; simp; omega)
  have hE0 := hE.quiet hk0
  have hp0 := h.keep hk0
  obtain ⟨rb, hrbn⟩ : ∃ rb, w.heap.size = rb := ⟨_, rfl⟩
  rw [hrbn] at hrb HRBB
  have HRG : Hid (w.heap.size ≤ rb) := Lib.hid (by omega)
  have HRN := Lib.hid hrbn
  clear hR hll hrbn
  go_enter Tryd.func22, Tryd.ntmps22
  go_upto_region 1 with (fail)
  obtain ⟨w0, hw0⟩ : ∃ x, w.alloc (.cells #[.int .i64 0, .int .i64 0, .slice none 0 0, .slice none 0 0, .slice none 0 0, .string ⟨#[]⟩, .string ⟨#[]⟩, .int .i64 0, .int .i64 0, .string ⟨#[]⟩, .string ⟨#[]⟩, .int .i64 0, .int .i64 0, .string ⟨#[]⟩, .int .i64 0] 71) = x := ⟨_, rfl⟩
  rw [hw0] at hrb hk0 hsz hE0 hp0 ⊢
  rw [HRN.out]
  have HRB0 := Lib.hid hrb
  have HW0 := Lib.hid hk0
  have HE := Lib.hid hE0
  have HP0 := Lib.hid hp0
  obtain ⟨g, o, c, c0, z0, lb, lg, -, hn, hc, hc2, k0, k1, k2, -⟩ := hp0.open'
  have hn2 : (0 : Int) < (l.length : Int) := by omega
  clear hrb hk0 hsz hE0 hp0 hw0 h hE
  rw [hat] at k2
  go_upto_region 2 with (fail)
  have hjn := Blk.new w0 71 #[.int .i64 at_, .int .i64 0, .slice none 0 0, .slice none 0 0, .slice none 0 0, .string ⟨#[]⟩, .string ⟨#[]⟩, .int .i64 0, .int .i64 0, .string ⟨#[]⟩, .string ⟨#[]⟩, .int .i64 0, .int .i64 0, .string ⟨#[]⟩, .int .i64 0]
  have hk1 := (Keeps.refl [] w0).alloc (.cells #[.int .i64 at_, .int .i64 0, .slice none 0 0, .slice none 0 0, .slice none 0 0, .string ⟨#[]⟩, .string ⟨#[]⟩, .int .i64 0, .int .i64 0, .string ⟨#[]⟩, .string ⟨#[]⟩, .int .i64 0, .int .i64 0, .string ⟨#[]⟩, .int .i64 0] 71)
  have hp1 := HP0.out.keep hk1
  obtain ⟨y0, hy0⟩ : ∃ x, w0.alloc (.cells #[.int .i64 at_, .int .i64 0, .slice none 0 0, .slice none 0 0, .slice none 0 0, .string ⟨#[]⟩, .string ⟨#[]⟩, .int .i64 0, .int .i64 0, .string ⟨#[]⟩, .string ⟨#[]⟩, .int .i64 0, .int .i64 0, .string ⟨#[]⟩, .int .i64 0] 71) = x := ⟨_, rfl⟩
  rw [hy0] at hjn hk1 hp1 ⊢
  obtain ⟨jb, hjb⟩ : ∃ jb, w0.heap.size = jb := ⟨_, rfl⟩
  have HJ : Hid (JbIs y0 w0.heap.size jb ⟨at_, 0, [], [], [], [], ⟨[], zV⟩, ⟨[], zV⟩, 0⟩ (.slice none 0 0) (.slice none 0 0) (.slice none 0 0)) := Lib.hid (by
    rw [hjb] at hjn
    exact ⟨hjn, World.ownsRow_nil _ _ _ _, World.ownsRow_nil _ _ _ _, World.ownsRow_nil _ _ _ _, (fun g hg => by cases hg), (fun g hg => by cases hg), (fun g hg => by cases hg)⟩)
  have HP := Lib.hid hp1
  have HK : Hid (Keeps [b] w0 y0) := Lib.hid hk1.of_nil
  have HJB : Hid (w0.heap.size ≤ jb) := Lib.hid (by omega)
  rw [hjb]
  clear hjn hk1 hp1 hy0 hjb hat c0 z0 lb lg hn hc hc2 k0 k1 k2 hn2
  rcases hS : mustP [106, 111, 98] l with x | r1
  · have hr := HR.out
    rw [hS, err_bind] at hr
    have HX := Lib.hid hr.symm
    have HC := Lib.hid (must_no hS y0 HP.out)
    clear hr hS
    go_wp2_with fail
    refine HC.out.mono ?_
    rintro ev w9 ⟨⟨gi, rfl, hb⟩, hk9⟩
    exact ⟨rfl, by rw [HX.out]; exact ⟨gi, rfl, hb⟩, HW0.out.of_nil.trans (HK.out.trans hk9)⟩
  have hr := HR.out
  rw [hS, ok_bind] at hr
  try dsimp only at hr
  clear HR
  have HR := Lib.hid hr
  clear hr
  have HC := Lib.hid (must_yes hS y0 HP.out)
  have HLR : Hid (r1.length ≤ l.length) := Lib.hid (by have := HLQ.out; have := mustP_len hS; omega)
  clear HLQ
  have HLQ := HLR
  clear HLR
  clear hS
  go_wp2_with fail
  refine HC.out.mono ?_
  rintro ev y1 ⟨rfl, hp, hk⟩
  have HJ' := Lib.hid (HJ.out.ps HP.out hk)
  have HK' := Lib.hid (HK.out.trans hk)
  clear HP HJ HK HC
  have HP := Lib.hid hp
  have HJ := HJ'
  have HK := HK'
  clear hp hk HJ' HK'
  have hc := names_any y1 HP.out (Nat.le_trans HLQ.out HLL.out)
  rcases hS : namesP r1 with x | ⟨a2, r2⟩
  · have hr := HR.out
    rw [hS, err_bind] at hr
    have HX := Lib.hid hr.symm
    rw [hS] at hc
    have HC2 := Lib.hid hc
    clear hr hS hc
    go_wp2_with fail
    refine HC2.out.mono ?_
    rintro ev w9 ⟨⟨gi, rfl, hb⟩, hk9⟩
    exact ⟨rfl, by rw [HX.out]; exact ⟨gi, rfl, hb⟩, HW0.out.of_nil.trans (HK.out.trans hk9)⟩
  have hr := HR.out
  rw [hS, ok_bind] at hr
  try dsimp only at hr
  clear HR
  have HR := Lib.hid hr
  clear hr
  rw [hS] at hc
  have HLR : Hid (r2.length ≤ l.length) := Lib.hid (Nat.le_trans (namesP_le hS) HLQ.out)
  have HC := Lib.hid hc
  clear hS hc HLQ
  have HLQ := HLR
  clear HLR
  go_wp2_with fail
  refine HC.out.mono ?_
  rintro ev y2 ⟨⟨v2, rfl, hov, hp⟩, hk⟩
  obtain ⟨A2, c2, hv, -⟩ := own_form hov
  subst hv
  have HOV := Lib.hid hov
  have HA3 : Hid (Apart (.slice A2 a2.length c2) (.slice none 0 0)) := Lib.hid (Apart.new HJ.out.o3 (fun g hg => (hov.lt g hg).1)).symm
  have HA4 : Hid (Apart (.slice A2 a2.length c2) (.slice none 0 0)) := Lib.hid (Apart.new HJ.out.o4 (fun g hg => (hov.lt g hg).1)).symm
  have HWG := Lib.hid HK.out.size
  clear hov
  have HJ' := Lib.hid (HJ.out.ps HP.out hk)
  have HK' := Lib.hid (HK.out.trans hk)
  clear HP HJ HK HC
  have HP := Lib.hid hp
  have HJ := HJ'
  have HK := HK'
  clear hp hk HJ' HK'
  have jf2 := HJ.out.blk.frozen 2
  have jc2 : y2.cell? ⟨jb, 2, none⟩ = some ((.slice none 0 0)) := HJ.out.blk.cell 2
  have lj := HJ.out.blk.lt
  have hkb : Keeps [jb] y2 (y2.setCell ⟨jb, 2, none⟩ (.slice A2 a2.length c2)) := (Keeps.refl _ _).setCell (.inl (by simp)) _
  have HJ' := Lib.hid (HJ.out.put2 (own_low HOV.out HWG.out) HA3.out HA4.out)
  have HP' := Lib.hid (HP.out.box HJ.out hkb)
  have HK' := Lib.hid (HK.out.box HJB.out hkb)
  clear hkb
  go_upto_region 4 with (fail)
  obtain ⟨y3, hy⟩ : ∃ x, (y2.setCell ⟨jb, 2, none⟩ (.slice A2 a2.length c2)) = x := ⟨_, rfl⟩
  rw [hy] at HJ' HP' HK' ⊢
  clear hy jf2 jc2 lj HJ HP HK
  have HJ := HJ'
  have HP := HP'
  have HK := HK'
  clear HJ' HP' HK'
  obtain ⟨sb, hsb⟩ : ∃ sb, seeP [114, 101, 116, 114, 121] r2 = sb := ⟨_, rfl⟩
  have hT := take_any [114, 101, 116, 114, 121] y3 HP.out
  rw [hsb] at hT
  have HT := Lib.hid hT
  have HSB := Lib.hid hsb
  clear hT hsb
  go_wp2_with fail
  refine HT.out.mono ?_
  rintro ev y4 ⟨rfl, hp, hk⟩
  have HJ' := Lib.hid (HJ.out.ps HP.out hk)
  have HK' := Lib.hid (HK.out.trans hk)
  clear HP HJ HK HT
  have HP := Lib.hid hp
  have HJ := HJ'
  have HK := HK'
  clear hp hk HJ' HK'
  go_upto_if 21 with (fail)
  go_cut [] (fun wx => ∃ n r, retryP r2 = .ok (n, r) ∧ JbIs wx w0.heap.size jb (⟨at_, 0, a2, [], [], [], ⟨[], zV⟩, ⟨[], zV⟩, n⟩ : Jb) (.slice A2 a2.length c2) (.slice none 0 0) (.slice none 0 0) ∧ Ps wx b r ∧ Keeps [b] w0 wx ∧ r.length ≤ l.length)
  case first =>
    cases sb with
    | false =>
      go_wp2
      go_meet
      exact ⟨0, r2, by unfold retryP; rw [HSB.out]; rfl, HJ.out, HP.out, HK.out, HLQ.out⟩
    | true =>
      obtain ⟨q, hq⟩ : ∃ q, r2.tail = q := ⟨_, rfl⟩
      have hpq : Ps y4 b q := by rw [← hq]; exact HP.out
      have HPq := Lib.hid hpq
      have HQT := Lib.hid hq
      have HQL : Hid (q.length ≤ r2.length) := Lib.hid (by rw [← hq, List.length_tail]; omega)
      obtain ⟨kd, hkd⟩ : ∃ kd, (hdT q).kind = kd := ⟨_, rfl⟩
      obtain ⟨tx, htx⟩ : ∃ tx, (hdT q).text = tx := ⟨_, rfl⟩
      obtain ⟨at2, hat2⟩ : ∃ at_, (hdT q).at_ = at_ := ⟨_, rfl⟩
      have HKD := Lib.hid hkd
      have HTX := Lib.hid htx
      obtain ⟨g, o, c, c0, z0, lb, lg, -, hn, hc, hc2, k0, k1, k2, hw⟩ := hpq.open'
      rw [hkd] at k0
      rw [htx] at k1
      rw [hat2] at k2
      obtain ⟨hw1, hw2, -⟩ := hw
      rw [htx] at hw1 hw2
      rw [hkd] at hw2
      have HW2 := Lib.hid hw2
      have hn2 : (0 : Int) < (q.length : Int) := by omega
      have HTK := Lib.hid ((Keeps.refl [] y4).alloc (.cells #[.int .i64 kd, .string (bs tx), .int .i64 at2] 49))
      clear hpq hkd htx hat2 hw2 hq HP
      by_cases hk2 : kd = 2
      · subst hk2
        have HDG : Hid (∀ c ∈ tx, digC c = true) := Lib.hid (HW2.out rfl)
        clear HW2
        rcases ha : Lib.atoiAll tx with n | _ | _
        · have hpos := atoi_pos ha HDG.out
          have HAT := Lib.hid (fun W hW => atoi_yes ha hw1 W hW)
          by_cases h5 : 5 < n
          · have hrt : retryP r2 = .error (4, (hdT q).at_) := by
              unfold retryP
              rw [if_pos HSB.out, HQT.out, if_neg (by rw [HKD.out]; simp), HTX.out, ha]
              exact if_pos h5
            have HX : Hid (R = .error (4, (hdT q).at_)) := Lib.hid (by
              have hr := HR.out
              rw [hrt, err_bind] at hr
              exact hr.symm)
            clear hrt
            clear ha hpos
            go_wp2_with fail
            refine (HAT.out _ (((HE.out.one hlo HK.out).quiet HTK.out).env)).mono ?_
            rintro ev w3 ⟨rfl, hk3⟩
            have HK3 := Lib.hid (HTK.out.trans hk3)
            clear hk3
            go_wp2_with fail
            refine (fail_any' 4 _ (HPq.out.keep HK3.out)).mono ?_
            rintro ev w9 ⟨⟨gi, rfl, hb⟩, hk9⟩
            exact ⟨rfl, by rw [HX.out]; exact ⟨gi, rfl, hb⟩, HW0.out.of_nil.trans ((HK.out.trans (HK3.out).of_nil).trans hk9.of_nil)⟩
          · have HRT : Hid (retryP r2 = .ok (n, q.tail)) := Lib.hid (by
              unfold retryP
              rw [if_pos HSB.out, HQT.out, if_neg (by rw [HKD.out]; simp), HTX.out, ha]
              show (if 5 < n then _ else _) = _
              rw [if_neg h5])
            have hk5q : (hdT q).kind ≠ 5 := by rw [HKD.out]; decide
            have hmore := HPq.out.more hk5q
            have hmore2 : (1 : Int) ≤ (q.length : Int) := by omega
            have hmore3 : (1 : Int) < (c : Int) := by omega
            have HK5Q := Lib.hid hk5q
            clear ha hpos hk5q hmore
            go_wp2_with fail
            refine (HAT.out _ (((HE.out.one hlo HK.out).quiet HTK.out).env)).mono ?_
            rintro ev w3 ⟨rfl, hk3⟩
            have HJ3 := Lib.hid (HJ.out.keep (HTK.out.trans hk3))
            have HP3 := Lib.hid (HPq.out.keep (HTK.out.trans hk3))
            have HK3 := Lib.hid (HK.out.trans (HTK.out.trans hk3).of_nil)
            have jf := HJ3.out.blk.frozen 14
            have jc : w3.cell? ⟨jb, 14, none⟩ = some (.int .i64 0) := HJ3.out.blk.cell 14
            have lj := HJ3.out.blk.lt
            have p0 : w3.cell? ⟨b, 0, none⟩ = some (.slice (some ⟨g, o, none⟩) q.length c) := (HTK.out.trans hk3).cell_of c0 (by simp)
            have pz : w3.frozen? ⟨b, 0, none⟩ = false := ((HTK.out.trans hk3).frozen lb (by simp)).trans z0
            have plb := World.block_lt_of_cell? _ _ p0
            have hkb : Keeps [jb] w3 (w3.setCell ⟨jb, 14, none⟩ (.int .i64 n)) := (Keeps.refl _ _).setCell (.inl (by simp)) _
            have HJ4 : Hid (JbIs (w3.setCell ⟨jb, 14, none⟩ (.int .i64 n)) w0.heap.size jb (⟨at_, 0, a2, [], [], [], ⟨[], zV⟩, ⟨[], zV⟩, n⟩ : Jb) (.slice A2 a2.length c2) (.slice none 0 0) (.slice none 0 0)) := Lib.hid (HJ3.out.box hkb ((HJ3.out.blk.set 14 (.int .i64 n)).congr (by rfl)) rfl rfl rfl)
            have HP4 := Lib.hid (HP3.out.box HJ3.out hkb)
            have HK4 := Lib.hid (HK3.out.box HJB.out hkb)
            have hjne := HJ3.out.blk.ty.ne HP3.out.ty (by decide)
            have HP0 : Hid ((w3.setCell ⟨jb, 14, none⟩ (.int .i64 n)).cell? ⟨b, 0, none⟩ = some (.slice (some ⟨g, o, none⟩) q.length c)) := Lib.hid (hkb.cell_of p0 (by simpa using hjne.symm))
            have HST := Lib.hid (fun n' a d => @Ps.step _ b g o c q HP4.out HP0.out HK5Q.out n' a d)
            clear hk3 hkb HP3 HK3 HJ3
            go_wp2
            go_meet
            have hst := HST.out (q.length - 1) ⟨g, o + 3, none⟩ (c - 1) rfl rfl rfl
            exact ⟨n, q.tail, HRT.out, HJ4.out.ps HP4.out hst.2, hst.1, HK4.out.trans hst.2, by have := HLQ.out; have := HQL.out; rw [List.length_tail]; omega⟩
        all_goals
          have hrt : retryP r2 = .error (4, (hdT q).at_) := by
            unfold retryP
            rw [if_pos HSB.out, HQT.out, if_neg (by rw [HKD.out]; simp), HTX.out, ha]
            try rfl
          have HX : Hid (R = .error (4, (hdT q).at_)) := Lib.hid (by
            have hr := HR.out
            rw [hrt, err_bind] at hr
            exact hr.symm)
          clear hrt
          have HAT := Lib.hid (fun W hW => atoi_none (s := tx) (fun n h => by rw [ha] at h; cases h) hw1 W hW)
          clear ha
          go_wp2_with fail
          refine (HAT.out _ (((HE.out.one hlo HK.out).quiet HTK.out).env)).mono ?_
          rintro ev w3 ⟨⟨n0, t0', p0', rfl⟩, hk3⟩
          have HK3 := Lib.hid (HTK.out.trans hk3)
          clear hk3
          go_wp2_with fail
          refine (fail_any' 4 _ (HPq.out.keep HK3.out)).mono ?_
          rintro ev w9 ⟨⟨gi, rfl, hb⟩, hk9⟩
          exact ⟨rfl, by rw [HX.out]; exact ⟨gi, rfl, hb⟩, HW0.out.of_nil.trans ((HK.out.trans (HK3.out).of_nil).trans hk9.of_nil)⟩
      · have e2 : (kd != 2) = true := by rw [bne_iff_ne]; exact hk2
        have hrt : retryP r2 = .error (3, (hdT q).at_) := by
          unfold retryP
          rw [if_pos HSB.out, HQT.out, if_pos (by rw [HKD.out]; exact hk2)]
          try rfl
        have HX : Hid (R = .error (3, (hdT q).at_)) := Lib.hid (by
          have hr := HR.out
          rw [hrt, err_bind] at hr
          exact hr.symm)
        clear hrt
        clear hk2 HW2
        go_wp2_with fail
        refine (fail_any' 3 _ (HPq.out.keep HTK.out)).mono ?_
        rintro ev w9 ⟨⟨gi, rfl, hb⟩, hk9⟩
        exact ⟨rfl, by rw [HX.out]; exact ⟨gi, rfl, hb⟩, HW0.out.of_nil.trans ((HK.out.trans (HTK.out).of_nil).trans hk9.of_nil)⟩
  case rest =>
    obtain ⟨n4, r4, hrt, hj, hp, hk, hlr⟩ := hcut
    obtain ⟨yc, rfl⟩ : ∃ y : World, y = wc := ⟨_, rfl⟩
    have hr := HR.out
    rw [hrt, ok_bind] at hr
    try dsimp only at hr
    clear HP HJ HK HR HLQ HSB
    have HR := Lib.hid hr
    have HP := Lib.hid hp
    have HJ := Lib.hid hj
    have HK := Lib.hid hk
    have HLQ := Lib.hid hlr
    clear hp hj hk hr hrt hlr
    rcases hS : mustP [61] r4 with x | r5
    · have hr := HR.out
      rw [hS, err_bind] at hr
      have HX := Lib.hid hr.symm
      have HC := Lib.hid (must_no hS yc HP.out)
      clear hr hS
      go_wp2_with fail
      refine HC.out.mono ?_
      rintro ev w9 ⟨⟨gi, rfl, hb⟩, hk9⟩
      exact ⟨rfl, by rw [HX.out]; exact ⟨gi, rfl, hb⟩, HW0.out.of_nil.trans (HK.out.trans hk9)⟩
    have hr := HR.out
    rw [hS, ok_bind] at hr
    try dsimp only at hr
    clear HR
    have HR := Lib.hid hr
    clear hr
    have HC := Lib.hid (must_yes hS yc HP.out)
    have HLR : Hid (r5.length ≤ l.length) := Lib.hid (by have := HLQ.out; have := mustP_len hS; omega)
    clear HLQ
    have HLQ := HLR
    clear HLR
    clear hS
    go_wp2_with fail
    refine HC.out.mono ?_
    rintro ev y5 ⟨rfl, hp, hk⟩
    have HJ' := Lib.hid (HJ.out.ps HP.out hk)
    have HK' := Lib.hid (HK.out.trans hk)
    clear HP HJ HK HC
    have HP := Lib.hid hp
    have HJ := HJ'
    have HK := HK'
    clear hp hk HJ' HK'
    have hc := body_any at_ 0 a2 [] [] [] ⟨[], zV⟩ ⟨[], zV⟩ n4 w0 y5 HE.out hlo HP.out HK.out HJB.out HJ.out (by simp) (by simp) (Nat.le_trans HLQ.out HLL.out)
    rcases hS : bodyP (⟨at_, 0, a2, [], [], [], ⟨[], zV⟩, ⟨[], zV⟩, n4⟩ : Jb) r5 with x | ⟨jx, r6⟩
    · have hr := HR.out
      rw [show job0 at_ a2 n4 = (⟨at_, 0, a2, [], [], [], ⟨[], zV⟩, ⟨[], zV⟩, n4⟩ : Jb) from rfl, hS, err_bind] at hr
      have HX := Lib.hid hr.symm
      rw [hS] at hc
      have HC2 := Lib.hid hc
      clear hr hS hc
      go_wp2_with fail
      refine HC2.out.mono ?_
      rintro ev w9 ⟨⟨gi, rfl, hb⟩, hk9⟩
      exact ⟨rfl, by rw [HX.out]; exact ⟨gi, rfl, hb⟩, HW0.out.of_nil.trans hk9⟩
    have hr := HR.out
    rw [show job0 at_ a2 n4 = (⟨at_, 0, a2, [], [], [], ⟨[], zV⟩, ⟨[], zV⟩, n4⟩ : Jb) from rfl, hS, ok_bind] at hr
    try dsimp only at hr
    clear HR
    have HR := Lib.hid hr
    rw [hS] at hc
    have HC := Lib.hid hc
    clear hr hS hc HLQ
    go_wp2_with fail
    refine HC.out.mono ?_
    rintro ev y6 ⟨⟨rfl, ⟨v6a, v6b, v6c, hj⟩, hp⟩, hk⟩
    clear HP HJ HK HC
    obtain ⟨at3, code3, outs3, ins3, cols3, op3, left3, right3, retry3⟩ := jx
    have HP := Lib.hid hp
    have HJ := Lib.hid hj
    have HK := Lib.hid hk
    clear hp hj hk
    rcases hS : mustP [59] r6 with x | r7
    · have hr := HR.out
      rw [hS, err_bind] at hr
      have HX := Lib.hid hr.symm
      have HC := Lib.hid (must_no hS y6 HP.out)
      clear hr hS
      go_wp2_with fail
      refine HC.out.mono ?_
      rintro ev w9 ⟨⟨gi, rfl, hb⟩, hk9⟩
      exact ⟨rfl, by rw [HX.out]; exact ⟨gi, rfl, hb⟩, HW0.out.of_nil.trans (HK.out.trans hk9)⟩
    have hr := HR.out
    rw [hS, ok_bind] at hr
    try dsimp only at hr
    clear HR
    have HR := Lib.hid hr
    clear hr
    have HC := Lib.hid (must_yes hS y6 HP.out)
    clear hS
    go_wp2_with fail
    refine HC.out.mono ?_
    rintro ev y7 ⟨rfl, hp, hk⟩
    have HJ' := Lib.hid (HJ.out.ps HP.out hk)
    have HK' := Lib.hid (HK.out.trans hk)
    clear HP HJ HK HC
    have HP := Lib.hid hp
    have HJ := HJ'
    have HK := HK'
    clear hp hk HJ' HK'
    obtain ⟨A2, c2, hv2, -⟩ := own_form HJ.out.o2
    obtain ⟨A3, c3, hv3, -⟩ := own_form HJ.out.o3
    obtain ⟨A4, c4, hv4, -⟩ := own_form HJ.out.o4
    subst hv2 hv3 hv4
    have HRB := Lib.hid (HRB0.out.keep HK.out HRBB.out)
    have HX := Lib.hid HR.out.symm
    clear HR
    have jc0 : y7.cell? ⟨jb, 0, none⟩ = some (.int .i64 at3) := HJ.out.blk.cell 0
    have rc0 : y7.cell? ⟨rb, 0, none⟩ = some (.int .i64 0) := HRB.out.cell 0
    have rf0 := HRB.out.frozen 0
    have jc1 : y7.cell? ⟨jb, 1, none⟩ = some (.int .i64 code3) := HJ.out.blk.cell 1
    have rc1 : y7.cell? ⟨rb, 1, none⟩ = some (.int .i64 0) := HRB.out.cell 1
    have rf1 := HRB.out.frozen 1
    have jc2 : y7.cell? ⟨jb, 2, none⟩ = some (.slice A2 outs3.length c2) := HJ.out.blk.cell 2
    have rc2 : y7.cell? ⟨rb, 2, none⟩ = some (.slice none 0 0) := HRB.out.cell 2
    have rf2 := HRB.out.frozen 2
    have jc3 : y7.cell? ⟨jb, 3, none⟩ = some (.slice A3 ins3.length c3) := HJ.out.blk.cell 3
    have rc3 : y7.cell? ⟨rb, 3, none⟩ = some (.slice none 0 0) := HRB.out.cell 3
    have rf3 := HRB.out.frozen 3
    have jc4 : y7.cell? ⟨jb, 4, none⟩ = some (.slice A4 cols3.length c4) := HJ.out.blk.cell 4
    have rc4 : y7.cell? ⟨rb, 4, none⟩ = some (.slice none 0 0) := HRB.out.cell 4
    have rf4 := HRB.out.frozen 4
    have jc5 : y7.cell? ⟨jb, 5, none⟩ = some (.string (bs op3)) := HJ.out.blk.cell 5
    have rc5 : y7.cell? ⟨rb, 5, none⟩ = some (.string ⟨#[]⟩) := HRB.out.cell 5
    have rf5 := HRB.out.frozen 5
    have jc6 : y7.cell? ⟨jb, 6, none⟩ = some (.string (bs left3.col)) := HJ.out.blk.cell 6
    have rc6 : y7.cell? ⟨rb, 6, none⟩ = some (.string ⟨#[]⟩) := HRB.out.cell 6
    have rf6 := HRB.out.frozen 6
    have jc7 : y7.cell? ⟨jb, 7, none⟩ = some (.int .i64 left3.val.kind) := HJ.out.blk.cell 7
    have rc7 : y7.cell? ⟨rb, 7, none⟩ = some (.int .i64 0) := HRB.out.cell 7
    have rf7 := HRB.out.frozen 7
    have jc8 : y7.cell? ⟨jb, 8, none⟩ = some (.int .i64 left3.val.num) := HJ.out.blk.cell 8
    have rc8 : y7.cell? ⟨rb, 8, none⟩ = some (.int .i64 0) := HRB.out.cell 8
    have rf8 := HRB.out.frozen 8
    have jc9 : y7.cell? ⟨jb, 9, none⟩ = some (.string (bs left3.val.word)) := HJ.out.blk.cell 9
    have rc9 : y7.cell? ⟨rb, 9, none⟩ = some (.string ⟨#[]⟩) := HRB.out.cell 9
    have rf9 := HRB.out.frozen 9
    have jc10 : y7.cell? ⟨jb, 10, none⟩ = some (.string (bs right3.col)) := HJ.out.blk.cell 10
    have rc10 : y7.cell? ⟨rb, 10, none⟩ = some (.string ⟨#[]⟩) := HRB.out.cell 10
    have rf10 := HRB.out.frozen 10
    have jc11 : y7.cell? ⟨jb, 11, none⟩ = some (.int .i64 right3.val.kind) := HJ.out.blk.cell 11
    have rc11 : y7.cell? ⟨rb, 11, none⟩ = some (.int .i64 0) := HRB.out.cell 11
    have rf11 := HRB.out.frozen 11
    have jc12 : y7.cell? ⟨jb, 12, none⟩ = some (.int .i64 right3.val.num) := HJ.out.blk.cell 12
    have rc12 : y7.cell? ⟨rb, 12, none⟩ = some (.int .i64 0) := HRB.out.cell 12
    have rf12 := HRB.out.frozen 12
    have jc13 : y7.cell? ⟨jb, 13, none⟩ = some (.string (bs right3.val.word)) := HJ.out.blk.cell 13
    have rc13 : y7.cell? ⟨rb, 13, none⟩ = some (.string ⟨#[]⟩) := HRB.out.cell 13
    have rf13 := HRB.out.frozen 13
    have jc14 : y7.cell? ⟨jb, 14, none⟩ = some (.int .i64 retry3) := HJ.out.blk.cell 14
    have rc14 : y7.cell? ⟨rb, 14, none⟩ = some (.int .i64 0) := HRB.out.cell 14
    have rf14 := HRB.out.frozen 14
    have lj := HJ.out.blk.lt
    have lr := HRB.out.lt
    go_wp2
    have hb7 := (((((((((((((((HRB.out.set 0 (.int .i64 at3)).set 1 (.int .i64 code3)).set 2 (.slice A2 outs3.length c2)).set 3 (.slice A3 ins3.length c3)).set 4 (.slice A4 cols3.length c4)).set 5 (.string (bs op3))).set 6 (.string (bs left3.col))).set 7 (.int .i64 left3.val.kind)).set 8 (.int .i64 left3.val.num)).set 9 (.string (bs left3.val.word))).set 10 (.string (bs right3.col))).set 11 (.int .i64 right3.val.kind)).set 12 (.int .i64 right3.val.num)).set 13 (.string (bs right3.val.word))).set 14 (.int .i64 retry3))
    have y0' := hb7.cell 0
    have y1' := hb7.cell 1
    have y2' := hb7.cell 2
    have y3' := hb7.cell 3
    have y4' := hb7.cell 4
    have y5' := hb7.cell 5
    have y6' := hb7.cell 6
    have y7' := hb7.cell 7
    have y8' := hb7.cell 8
    have y9' := hb7.cell 9
    have y10' := hb7.cell 10
    have y11' := hb7.cell 11
    have y12' := hb7.cell 12
    have y13' := hb7.cell 13
    have y14' := hb7.cell 14
    refine bodyPost_ret (v := .agg #[.int .i64 at3, .int .i64 code3, .slice A2 outs3.length c2, .slice A3 ins3.length c3, .slice A4 cols3.length c4, .string (bs op3), .string (bs left3.col), .int .i64 left3.val.kind, .int .i64 left3.val.num, .string (bs left3.val.word), .string (bs right3.col), .int .i64 right3.val.kind, .int .i64 right3.val.num, .string (bs right3.val.word), .int .i64 retry3]) (by simp [results, Tryd.results22, go_sem, y0', y1', y2', y3', y4', y5', y6', y7', y8', y9', y10', y11', y12', y13', y14']) rfl ⟨?_, ?_⟩
    · rw [HX.out]
      have hkr : Keeps [rb] y7 (((((((((((((((y7.setCell ⟨rb, 0, none⟩ (.int .i64 at3)).setCell ⟨rb, 1, none⟩ (.int .i64 code3)).setCell ⟨rb, 2, none⟩ (.slice A2 outs3.length c2)).setCell ⟨rb, 3, none⟩ (.slice A3 ins3.length c3)).setCell ⟨rb, 4, none⟩ (.slice A4 cols3.length c4)).setCell ⟨rb, 5, none⟩ (.string (bs op3))).setCell ⟨rb, 6, none⟩ (.string (bs left3.col))).setCell ⟨rb, 7, none⟩ (.int .i64 left3.val.kind)).setCell ⟨rb, 8, none⟩ (.int .i64 left3.val.num)).setCell ⟨rb, 9, none⟩ (.string (bs left3.val.word))).setCell ⟨rb, 10, none⟩ (.string (bs right3.col))).setCell ⟨rb, 11, none⟩ (.int .i64 right3.val.kind)).setCell ⟨rb, 12, none⟩ (.int .i64 right3.val.num)).setCell ⟨rb, 13, none⟩ (.string (bs right3.val.word))).setCell ⟨rb, 14, none⟩ (.int .i64 retry3)) := ((((((((((((((((Keeps.refl _ _).setCell (.inl (by simp)) _).setCell (.inl (by simp)) _).setCell (.inl (by simp)) _).setCell (.inl (by simp)) _).setCell (.inl (by simp)) _).setCell (.inl (by simp)) _).setCell (.inl (by simp)) _).setCell (.inl (by simp)) _).setCell (.inl (by simp)) _).setCell (.inl (by simp)) _).setCell (.inl (by simp)) _).setCell (.inl (by simp)) _).setCell (.inl (by simp)) _).setCell (.inl (by simp)) _).setCell (.inl (by simp)) _)
      have hL : ∀ x ∈ [rb], OfTy y7 x 71 := fun x hx => by rw [List.mem_singleton.1 hx]; exact HRB.out.ty
      exact ⟨_, _, _, rfl, ⟨own_far (own_low HJ.out.o2 HW0.out.size) hkr hL (by decide), own_far (own_low HJ.out.o3 HW0.out.size) hkr hL (by decide), own_far (own_low HJ.out.o4 HW0.out.size) hkr hL (by decide)⟩, HP.out.far hkr (fun x hx => ⟨71, hL x hx, by decide, by decide⟩)⟩
    · have hkr : Keeps [rb] y7 (((((((((((((((y7.setCell ⟨rb, 0, none⟩ (.int .i64 at3)).setCell ⟨rb, 1, none⟩ (.int .i64 code3)).setCell ⟨rb, 2, none⟩ (.slice A2 outs3.length c2)).setCell ⟨rb, 3, none⟩ (.slice A3 ins3.length c3)).setCell ⟨rb, 4, none⟩ (.slice A4 cols3.length c4)).setCell ⟨rb, 5, none⟩ (.string (bs op3))).setCell ⟨rb, 6, none⟩ (.string (bs left3.col))).setCell ⟨rb, 7, none⟩ (.int .i64 left3.val.kind)).setCell ⟨rb, 8, none⟩ (.int .i64 left3.val.num)).setCell ⟨rb, 9, none⟩ (.string (bs left3.val.word))).setCell ⟨rb, 10, none⟩ (.string (bs right3.col))).setCell ⟨rb, 11, none⟩ (.int .i64 right3.val.kind)).setCell ⟨rb, 12, none⟩ (.int .i64 right3.val.num)).setCell ⟨rb, 13, none⟩ (.string (bs right3.val.word))).setCell ⟨rb, 14, none⟩ (.int .i64 retry3)) := ((((((((((((((((Keeps.refl _ _).setCell (.inl (by simp)) _).setCell (.inl (by simp)) _).setCell (.inl (by simp)) _).setCell (.inl (by simp)) _).setCell (.inl (by simp)) _).setCell (.inl (by simp)) _).setCell (.inl (by simp)) _).setCell (.inl (by simp)) _).setCell (.inl (by simp)) _).setCell (.inl (by simp)) _).setCell (.inl (by simp)) _).setCell (.inl (by simp)) _).setCell (.inl (by simp)) _).setCell (.inl (by simp)) _).setCell (.inl (by simp)) _)
      exact (HW0.out.of_nil.trans HK.out).trans' hkr (fun x hx hl => by rw [List.mem_singleton.1 hx] at hl; have := HRG.out; omega)
end Go.Proofs.YtdmboaoeholkpaaDoor
namespace Go.Proofs.YtdmboaoeholkpaaDoor
open Go.RowKit
attribute [local go_sem] bs_size bs_extract bs_append bs_toList
/-- A builder at b holds the bytes l; all of it lies from block B on. -/
def Bld (w : World) (B b : Nat) (l : Bs) : Prop := Lib.IsBuilder 55 5 B b (Lib.byteCells l) w
theorem bytes_len (l : Bs) : (Lib.byteCells l).length = l.length := by simp [Lib.byteCells]
theorem bld_info : (Tryd.prog.info? 5).map (fun i => (i.zero, i.size, i.bytes)) = some (some (.int .u8 0), 1, 1) := by kernel_rfl
theorem bld_size : (Tryd.prog.info? 55).map (·.size) = some 2 := by kernel_rfl
theorem bld_lies : liesAt Tryd.prog Tryd.prog.depth 55 (2 / Tryd.prog.cellsOf 55) 0 55 1 = true := by kernel_rfl
set_option maxHeartbeats 1000000 in
set_option maxRecDepth 100000 in
theorem copy_fresh (b : Nat) (w : World) (h0 : w.cell? ⟨b, 0, none⟩ = some (.pointer none)) (hsh : w.shape? b = some (55, 2)) (hfz : w.frozen? ⟨b, 0, none⟩ = false) :
    Calls Tryd.prog 25 #[.pointer (some ⟨b, 0, none⟩)] w fun e w' => e = .returned (.tuple #[]) ∧ w' = w.setCell ⟨b, 0, none⟩ (.pointer (some ⟨b, 0, none⟩)) := by
  obtain ⟨j, hj, hjs⟩ := Option.map_eq_some_iff.1 bld_size
  go_enter Tryd.func25, Tryd.ntmps25
  go_wp2
  rw [Lib.run_to_unsafe w ⟨b, 0, none⟩ Tryd.underlying52 Tryd.underlying99 hj (by rw [hjs]; decide) hsh (Nat.zero_lt_succ 1)]
  simp only [Result.andThen]
  rw [Oper.upon_value]
  go_wp2
  rw [run_callFunc_extern Tryd.func40 (by kernel_rfl) (by kernel_rfl) (by kernel_rfl) (e := Extern.AbiNoEscape.same) (by kernel_rfl)]
  rw [Lib.run_noEscape]
  simp only [Result.andThen]
  rw [Oper.upon_value]
  go_wp2
  rw [Lib.run_from_unsafe w ⟨b, 0, none⟩ Tryd.underlying99 Tryd.underlying52 hj hsh bld_lies]
  simp only [Result.andThen]
  rw [Oper.upon_value]
  go_wp2
  go_end0
  exact ⟨rfl, rfl⟩
set_option maxRecDepth 100000 in
theorem copy_used (b : Nat) (w : World) (h0 : w.cell? ⟨b, 0, none⟩ = some (.pointer (some ⟨b, 0, none⟩))) :
    Calls Tryd.prog 25 #[.pointer (some ⟨b, 0, none⟩)] w fun e w' => e = .returned (.tuple #[]) ∧ w' = w := by
  obtain ⟨j, hj, hjs⟩ := Option.map_eq_some_iff.1 bld_size
  go_enter Tryd.func25, Tryd.ntmps25
  go_wp2
  rw [Lib.run_neq_ptr_same w _ Tryd.underlying52 hj]
  go_wp2
  go_end0
  exact ⟨rfl, rfl⟩
theorem copy_any (B b : Nat) (bs : List Value) (w : World) (h : Lib.IsBuilder 55 5 B b bs w) :
    Calls Tryd.prog 25 #[.pointer (some ⟨b, 0, none⟩)] w fun e w' => e = .returned (.tuple #[]) ∧ (Lib.BuilderAt 55 5 B b (.pointer (some ⟨b, 0, none⟩)) bs w' ∧ Below B w w' ∧ Lib.OthersKept 5 (some b) w w') := by
  rcases h with h | h
  · refine (copy_fresh b w h.cell0 h.shape h.frozen0).mono ?_
    rintro e w' ⟨rfl, rfl⟩
    exact ⟨rfl, h.used _, (Below.refl B w).setCell (p := ⟨b, 0, none⟩) h.1 _, Lib.OthersKept.setCell (b := b) (Lib.OthersKept.refl _ _ _) ⟨b, 0, none⟩ rfl _⟩
  · refine (copy_used b w h.cell0).mono ?_
    rintro e w' ⟨rfl, rfl⟩
    exact ⟨rfl, h, Below.refl B _, Lib.OthersKept.refl _ _ _⟩
theorem bld_kind {w : World} {B : Nat} {e : TypeId} {v : Value} {n : Nat} {xs : List Value} (h : w.ownsRow B e 1 v n xs) : ∀ g, v.ownBlock = some g → ∃ c fz, w.heap[g]? = some (.cells c e fz) := fun g hg => by
  rcases h.2 with ⟨rfl, _⟩ | ⟨g', cap, cur, rfl, _, hh, _⟩
  · cases hg
  · have : g' = g := by simpa [Value.ownBlock] using hg
    subst this
    exact ⟨cur, _, hh⟩
theorem bld_after {w1 w2 : World} {b : Nat} {t : TypeId} {cs : Array Value} {v : Value} {o : Obj} (hbk : w1.heap[b]? = some (.cells cs t (0, 0))) (hgrow : (w1.alloc o).grownBy w2 v.ownBlock) (hne : v.ownBlock ≠ some b) :
    b < w1.heap.size ∧ w2.heap[b]? = some (.cells cs t (0, 0)) := by
  have hlt : b < w1.heap.size := (Array.getElem?_eq_some_iff.1 hbk).1
  exact ⟨hlt, by rw [hgrow.block b (by simp; omega) (fun e => hne e.symm), Lib.alloc_old w1 _ b hlt]; exact hbk⟩
theorem bld_after' {w1 w2 : World} {b : Nat} {t : TypeId} {cs : Array Value} {v : Value} (hbk : w1.heap[b]? = some (.cells cs t (0, 0))) (hgrow : w1.grownBy w2 v.ownBlock) (hne : v.ownBlock ≠ some b) :
    b < w1.heap.size ∧ w2.heap[b]? = some (.cells cs t (0, 0)) := by
  have hlt : b < w1.heap.size := (Array.getElem?_eq_some_iff.1 hbk).1
  exact ⟨hlt, by rw [hgrow.block b hlt (fun e => hne e.symm)]; exact hbk⟩
set_option maxHeartbeats 1000000 in
set_option maxRecDepth 100000 in
theorem writeString_any {w : World} {B b : Nat} {l : Bs} (h : Bld w B b l) (s : Bs) (hlen : l.length ≤ 1000000000) (hs : s.length ≤ 1000000000) (hBw : B ≤ w.heap.size) :
    Calls Tryd.prog 13 #[.pointer (some ⟨b, 0, none⟩), .string (bs s)] w fun e w' => e = .returned (.tuple #[.int .i64 s.length, .nilIface]) ∧ Bld w' B b (l ++ s) ∧ Below B w w' ∧ Lib.OthersKept 5 (some b) w w' := by
  obtain ⟨i0, hi, hz0, hz1, hz2⟩ := info_parts bld_info
  have hl := bytes_len l
  have HL := Lib.hid hl
  have HB := Lib.hid (copy_any B b (Lib.byteCells l) w h)
  clear hl h
  go_enter Tryd.func13, Tryd.ntmps13
  go_wp2_with fail
  refine HB.out.mono ?_
  rintro e w1 ⟨rfl, h1, hb1, ko1⟩
  obtain ⟨hB, v, hbk, hown, hne⟩ := h1
  have c1 : w1.cell? ⟨b, 1, none⟩ = some v := by rw [Lib.cell_of_heap hbk]; rfl
  have HBK := Lib.hid hbk
  have HO := Lib.hid hown
  have HB1 := Lib.hid hb1
  have KO1 := Lib.hid ko1
  have HS := Lib.hid (show B ≤ w1.heap.size by have := hb1.size; omega)
  have HM := Lib.hid (show (Lib.byteCells l).length + (bs s).size ≤ maxLen ∧ (Lib.byteCells l).length + (bs s).size ≤ 140737488355328 by rw [HL.out, bs_size]; simp only [maxLen]; omega)
  clear hbk hown hb1 ko1
  go_wp2_with (at_builtin; refine Lib.wpList_append_own_string _ rfl _ _ 53 9 rfl B 5 i0 Tryd.underlying53 Tryd.underlying9 hi hz0 hz1 hz2 _ _ _ rfl HO.out (bs s) rfl HM.out.1 HM.out.2 HS.out ?_)
  intro vv w2 hown' hgrow hnn
  obtain ⟨hlt, hb2⟩ := bld_after' HBK.out hgrow hne
  have d1 : w2.cell? ⟨b, 1, none⟩ = some v := by rw [Lib.cell_of_heap hb2]; rfl
  have f1 : w2.frozen? ⟨b, 1, none⟩ = false := Lib.frozen_of_heap hb2 1
  obtain ⟨ao, n', cap, rfl⟩ : ∃ ao n' cap, vv = .slice ao n' cap := by
    rcases hown'.2 with ⟨hv, _⟩ | ⟨g, cap, cur, hv, _⟩
    · exact ⟨_, _, _, hv⟩
    · exact ⟨_, _, _, hv⟩
  have e : Lib.byteCells (l ++ s) = Lib.byteCells l ++ Lib.strCells (bs s) := by simp [Lib.byteCells, Lib.strCells, bs]
  have HO2 := Lib.hid hown'
  have HE := Lib.hid e
  have HG := Lib.hid hgrow
  have HB2 := Lib.hid hb2
  clear hown' e hgrow hb2 hnn
  go_wp2
  go_ret2
  refine ⟨rfl, .inr ?_, ?_, ?_⟩
  · exact Lib.BuilderAt.put (T := 55) (e := 5) hB HB2.out (bs' := Lib.byteCells (l ++ s)) (by rw [HE.out, List.length_append, Lib.strCells_length, bs_size]; exact HO2.out) (by decide)
  · exact (HB1.out.grown HG.out (by have := HB1.out.size; omega) (fun k hk => (HO.out.lt k hk).1)).setCell (p := ⟨b, 1, none⟩) hB _
  · exact (KO1.out.grown HG.out (bld_kind HO.out)).setCell ⟨b, 1, none⟩ rfl _
theorem Bld.alloc {w : World} {B b : Nat} {l : Bs} (h : Bld w B b l) (o : Obj) : Bld (w.alloc o) B b l := by
  have key : ∀ p, Lib.BuilderAt 55 5 B b p (Lib.byteCells l) w → Lib.BuilderAt 55 5 B b p (Lib.byteCells l) (w.alloc o) := fun p hp => by
    obtain ⟨h1, v, h2, h3, h4⟩ := hp
    exact ⟨h1, v, (Lib.alloc_old w o b (Array.getElem?_eq_some_iff.1 h2).1).trans h2, h3.alloc o, h4⟩
  rcases h with h | h
  · exact .inl (key _ h)
  · exact .inr (key _ h)
theorem Bld.keep {w w' : World} {B b : Nat} {l : Bs} (h : Bld w B b l) (hk : Keeps [] w w') : Bld w' B b l := by
  have key : ∀ p, Lib.BuilderAt 55 5 B b p (Lib.byteCells l) w → Lib.BuilderAt 55 5 B b p (Lib.byteCells l) w' := fun p hp => by
    obtain ⟨h1, v, h2, h3, h4⟩ := hp
    exact ⟨h1, v, (hk.block b (Array.getElem?_eq_some_iff.1 h2).1 (by simp)).trans h2, own_keep h3 hk (by simp), h4⟩
  rcases h with h | h
  · exact .inl (key _ h)
  · exact .inr (key _ h)
theorem Bld.lt {w : World} {B b : Nat} {l : Bs} (h : Bld w B b l) : b < w.heap.size := by
  rcases h with ⟨_, v, h2, _⟩ | ⟨_, v, h2, _⟩
  · exact (Array.getElem?_eq_some_iff.1 h2).1
  · exact (Array.getElem?_eq_some_iff.1 h2).1
theorem Bld.drew {w : World} {B b : Nat} {l : Bs} (h : Bld w B b l) : Bld w.drew B b l := h
/-- Nothing of what was there below the builder turns. -/
theorem Keeps.under {w0 w w' : World} (hk : Keeps [] w0 w) (hb : Below w0.heap.size w w') : Keeps [] w0 w' :=
  ⟨hb.os.trans hk.os, hb.output.trans hk.output, Nat.le_trans hk.size hb.size, fun k h1 _ => (hb.block k h1).trans (hk.block k h1 (by simp))⟩
/-- A block of another kind stands while a builder is written. -/
theorem Blk.beside {w w' : World} {g b : Nat} {t e : TypeId} {cs : Array Value} (h : Blk w g t cs) (hk : Lib.OthersKept e (some b) w w') (hg : g ≠ b) (ht : t ≠ e) : Blk w' g t cs :=
  hk g _ h (by simpa using hg) (fun c fz he => by injection he with _ h2; exact ht h2)
/-- A fresh builder. -/
theorem bld_new (w : World) : Bld (w.alloc (.cells #[.pointer none, .slice none 0 0] 55)) w.heap.size w.heap.size [] := Lib.fresh_isBuilder _ _ w
end Go.Proofs.YtdmboaoeholkpaaDoor
