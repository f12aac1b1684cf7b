/- The reference's job. The reference's cutter: which mark stands there: plain. The cutter's letter, digit, run and next. -/
import Derived.Test.YtnjjajanfedjiaaGreatDoorFrdM22
import Derived.Test.YtnjjajanfedjiaaGreatDoorFrdM13
import Derived.Test.YtnjjajanfedjiaaGreatDoorFrdM3
import Derived.Lib.IndexBytes
import Derived.Test.YtnjjajanfedjiaaGreatDoorFrdM8
import Derived.Lib.IndexLaws
set_option linter.unusedSimpArgs false
set_option linter.unusedVariables false
namespace Go.Proofs.YtnjjajanfedjiaaGreatDoor
open Go.RowKit Go.BigFrame
attribute [local go_sem] bs_size bs_extract bs_append bs_toList
def joS5 (j : Jb) : List Tk → Except (Int × Int) (Jb × List Tk) := fun r => mustP [59] r >>= fun r => .ok (j, r)
def joS4 (at_ : Int) (os : List Bs) (n : Int) : List Tk → Except (Int × Int) (Jb × List Tk) := fun r => bodyP (job0 at_ os n) r >>= fun p => joS5 p.1 p.2
def joS3 (at_ : Int) (os : List Bs) (n : Int) : List Tk → Except (Int × Int) (Jb × List Tk) := fun r => mustP [61] r >>= joS4 at_ os n
def joS2 (at_ : Int) (os : List Bs) : List Tk → Except (Int × Int) (Jb × List Tk) := fun r => retryP r >>= fun p => joS3 at_ os p.1 p.2
def joS1 (at_ : Int) : List Tk → Except (Int × Int) (Jb × List Tk) := fun r => namesP r >>= fun p => joS2 at_ p.1 p.2
set_option maxRecDepth 100000 in
set_option maxHeartbeats 8000000 in
theorem rjob_any {l : List Tk} {b lo : Nat} {x : Option (Int × Int)} (w : World) (hE : RB w lo) (hlo : lo ≤ b) (h : RdIs w b l x) (hll : l.length ≤ 1000000) :
  Calls Tryz.prog 30 #[.pointer (some ⟨b, 0, none⟩)] w fun e w' => ∃ j v2 v3 v4 l' x', e = .returned (.agg (jbCells j v2 v3 v4)) ∧ JRows w' w.heap.size j v2 v3 v4 ∧ RdIs w' b l' x' ∧ Rl jobP l x j l' x' ∧ l'.length ≤ l.length ∧ (x = none → seeP [106, 111, 98] l = true → l'.length < l.length) ∧ Keeps [b] w w' := by
 have HLL := Lib.hid hll
 have HLQ := Lib.hid (Nat.le_refl l.length)
 obtain ⟨at_, hat⟩ : ∃ at_, (hdT l).at_ = at_ := ⟨_, rfl⟩
 have HIM : Hid (∀ i l' x', Rl (fun r => mustP [106, 111, 98] r >>= joS1 at_) l x i l' x' → Rl jobP l x i l' x') := Lib.hid (fun i l' x' hq => Rl.congr (by rw [← hat]; rfl) hq)
 have hrb := Blk.new w 45 #[.int .i64 0, .int .i64 0, .slice none 0 0, .slice none 0 0, .slice none 0 0, .string ⟨#[]⟩, .string ⟨#[]⟩, .int .i64 0, .int .i64 0, .string ⟨#[]⟩, .string ⟨#[]⟩, .int .i64 0, .int .i64 0, .string ⟨#[]⟩, .int .i64 0]
 have hk0 := (Keeps.refl [] w).alloc (.cells #[.int .i64 0, .int .i64 0, .slice none 0 0, .slice none 0 0, .slice none 0 0, .string ⟨#[]⟩, .string ⟨#[]⟩, .int .i64 0, .int .i64 0, .string ⟨#[]⟩, .string ⟨#[]⟩, .int .i64 0, .int .i64 0, .string ⟨#[]⟩, .int .i64 0] 45)
 have HRBB : Hid (w.heap.size ∉ [b]) := Lib.hid (by have := h.lt; simp; omega)
 have HBW : Hid (b < w.heap.size) := Lib.hid h.lt
 have hE0 := hE.quiet hk0
 have hp0 := h.keep hk0
 obtain ⟨rb, hrbn⟩ : ∃ rb, w.heap.size = rb := ⟨_, rfl⟩
 rw [hrbn] at hrb HRBB
 have HRG : Hid (w.heap.size ≤ rb) := Lib.hid (by omega)
 have HRN := Lib.hid hrbn
 clear hll hrbn
 go_enter Tryz.func30, Tryz.ntmps30
 go_upto_region 1 with (fail)
 obtain ⟨w0, hw0⟩ : ∃ x, w.alloc (.cells #[.int .i64 0, .int .i64 0, .slice none 0 0, .slice none 0 0, .slice none 0 0, .string ⟨#[]⟩, .string ⟨#[]⟩, .int .i64 0, .int .i64 0, .string ⟨#[]⟩, .string ⟨#[]⟩, .int .i64 0, .int .i64 0, .string ⟨#[]⟩, .int .i64 0] 45) = x := ⟨_, rfl⟩
 rw [hw0] at hrb hk0 hE0 hp0 ⊢
 rw [HRN.out]
 have HRB0 := Lib.hid hrb
 have HW0 := Lib.hid hk0
 have HE0 := Lib.hid hE0
 have HP0 := Lib.hid hp0
 obtain ⟨g, o, c, c0, c1, c2, -, lb, lg, -, hn, hc, hc2, k0, k1, k2, -⟩ := hp0.open'
 have hn2 : (0 : Int) < (l.length : Int) := by omega
 clear hrb hk0 hE0 hp0 hw0 h hE
 rw [hat] at k2
 go_upto_region 2 with (fail)
 have hjn := Blk.new w0 45 #[.int .i64 at_, .int .i64 0, .slice none 0 0, .slice none 0 0, .slice none 0 0, .string ⟨#[]⟩, .string ⟨#[]⟩, .int .i64 0, .int .i64 0, .string ⟨#[]⟩, .string ⟨#[]⟩, .int .i64 0, .int .i64 0, .string ⟨#[]⟩, .int .i64 0]
 have hk1 := (Keeps.refl [] w0).alloc (.cells #[.int .i64 at_, .int .i64 0, .slice none 0 0, .slice none 0 0, .slice none 0 0, .string ⟨#[]⟩, .string ⟨#[]⟩, .int .i64 0, .int .i64 0, .string ⟨#[]⟩, .string ⟨#[]⟩, .int .i64 0, .int .i64 0, .string ⟨#[]⟩, .int .i64 0] 45)
 have hp1 := HP0.out.keep hk1
 have he1 := HE0.out.quiet hk1
 obtain ⟨y0, hy0⟩ : ∃ x, w0.alloc (.cells #[.int .i64 at_, .int .i64 0, .slice none 0 0, .slice none 0 0, .slice none 0 0, .string ⟨#[]⟩, .string ⟨#[]⟩, .int .i64 0, .int .i64 0, .string ⟨#[]⟩, .string ⟨#[]⟩, .int .i64 0, .int .i64 0, .string ⟨#[]⟩, .int .i64 0] 45) = x := ⟨_, rfl⟩
 rw [hy0] at hjn hk1 hp1 he1 ⊢
 obtain ⟨jb, hjb⟩ : ∃ jb, w0.heap.size = jb := ⟨_, rfl⟩
 have HJ : Hid (JbIs y0 w0.heap.size jb (⟨at_, 0, [], [], [], [], ⟨[], zV⟩, ⟨[], zV⟩, 0⟩ : Jb) (.slice none 0 0) (.slice none 0 0) (.slice none 0 0)) := Lib.hid (by
  rw [hjb] at hjn
  exact ⟨hjn, World.ownsRow_nil _ _ _ _, World.ownsRow_nil _ _ _ _, World.ownsRow_nil _ _ _ _, (fun g hg => by cases hg), (fun g hg => by cases hg), (fun g hg => by cases hg)⟩)
 have HP := Lib.hid hp1
 have HE := Lib.hid he1
 have HK : Hid (Keeps [b] w0 y0) := Lib.hid hk1.of_nil
 have HJB : Hid (w0.heap.size ≤ jb) := Lib.hid (by omega)
 rw [hjb]
 clear hjn hk1 hp1 he1 hy0 hjb hat c0 c1 c2 lb lg hn hc hc2 k0 k1 k2 hn2
 have HC := Lib.hid (rmust_any [106, 111, 98] y0 HE.out.fine (HE.out.fne hlo) HP.out)
 go_wp2_with fail
 refine HC.out.mono ?_
 rintro ev y1 ⟨rfl, ⟨q1, x1, hp, hr, hll'⟩, hk⟩
 have HST : Hid (x = none → seeP [106, 111, 98] l = true → q1.length < l.length) := Lib.hid (fun e hs => by
  subst e
  rw [(must_seen hr hs).1, List.length_tail]
  have := HP.out.endT.pos
  omega)
 have HIM' : Hid (∀ i l' x', Rl (joS1 at_) q1 x1 i l' x' → Rl jobP l x i l' x') := Lib.hid (fun i l' x' hq => HIM.out i l' x' (Rl.must hr hq))
 clear HIM hr
 have HIM := HIM'
 clear HIM'
 have HJ' := Lib.hid (HJ.out.rd HP.out hk)
 have HK' := Lib.hid (HK.out.trans hk)
 have HE' := Lib.hid (HE.out.one hlo hk)
 have HP' := Lib.hid hp
 clear HJ HK HE HP hk hp HC
 have HJ := HJ'
 have HK := HK'
 have HE := HE'
 have HP := HP'
 clear HJ' HK' HE' HP'
 have HLR := Lib.hid (Nat.le_trans hll' HLQ.out)
 clear hll' HLQ
 have HLQ := HLR
 clear HLR
 have HLQ1 := HLQ
 have HLL1 := Lib.hid (Nat.le_trans HLQ.out HLL.out)
 clear HLQ
 have HLQ : Hid (q1.length ≤ q1.length) := Lib.hid (Nat.le_refl _)
 have HLLl := HLL
 clear HLL
 have HLL := HLL1
 clear HLL1
 have HC := Lib.hid (rsome_any y1 HE.out.fine (Nat.lt_of_lt_of_le HE.out.flt hlo) HP.out (Nat.le_trans HLQ.out HLL.out))
 go_wp2_with fail
 refine HC.out.mono ?_
 rintro ev y2 ⟨a2, v2, q2, x2, rfl, hov, hp, hr, hs, hll', hk⟩
 clear hs
 obtain ⟨A2, c2, hv, -⟩ := own_form hov
 subst hv
 have HOV := Lib.hid hov
 have HWG := Lib.hid HK.out.size
 have HA3 : Hid (Apart (.slice A2 a2.length c2) (.slice none 0 0)) := Lib.hid (Apart.new HJ.out.o3 (fun g hg => (hov.lt g hg).1)).symm
 have HA4 : Hid (Apart (.slice A2 a2.length c2) (.slice none 0 0)) := Lib.hid (Apart.new HJ.out.o4 (fun g hg => (hov.lt g hg).1)).symm
 clear hov
 have HIM' : Hid (∀ i l' x', Rl (joS2 at_ a2) q2 x2 i l' x' → Rl jobP l x i l' x') := Lib.hid (fun i l' x' hq => HIM.out i l' x' (Rl.bind (Q := fun a => joS2 at_ a) hr hq))
 clear HIM hr
 have HIM := HIM'
 clear HIM'
 have HJ' := Lib.hid (HJ.out.rd HP.out hk)
 have HK' := Lib.hid (HK.out.trans hk)
 have HE' := Lib.hid (HE.out.one hlo hk)
 have HP' := Lib.hid hp
 clear HJ HK HE HP hk hp HC
 have HJ := HJ'
 have HK := HK'
 have HE := HE'
 have HP := HP'
 clear HJ' HK' HE' HP'
 have HLR := Lib.hid (Nat.le_trans hll' HLQ.out)
 clear hll' HLQ
 have HLQ := HLR
 clear HLR
 have jf2 := HJ.out.blk.frozen 2
 have jc2 : y2.cell? ⟨jb, 2, none⟩ = some (.slice none 0 0) := HJ.out.blk.cell 2
 have lj := HJ.out.blk.lt
 have hkb : Keeps [jb] y2 (y2.setCell ⟨jb, 2, none⟩ (.slice A2 a2.length c2)) := (Keeps.refl _ _).setCell (.inl (by simp)) _
 have HJ' := Lib.hid (HJ.out.put2 (own_low HOV.out HWG.out) HA3.out HA4.out)
 have HP' := Lib.hid (HP.out.box HJ.out hkb)
 have HK' := Lib.hid (HK.out.box HJB.out hkb)
 have HE' := Lib.hid (HE0.out.one hlo HK'.out)
 clear hkb
 go_upto_region 4 with (fail)
 obtain ⟨y3, hy⟩ : ∃ x, (y2.setCell ⟨jb, 2, none⟩ (.slice A2 a2.length c2)) = x := ⟨_, rfl⟩
 rw [hy] at HJ' HP' HK' HE' ⊢
 clear hy jf2 jc2 lj HJ HP HK HE HOV HWG HA3 HA4
 have HJ := HJ'
 have HP := HP'
 have HK := HK'
 have HE := HE'
 clear HJ' HP' HK' HE'
 obtain ⟨sb, hsb⟩ : ∃ sb, (x2.isNone && seeP [114, 101, 116, 114, 121] q2) = sb := ⟨_, rfl⟩
 have hT := rtake_any [114, 101, 116, 114, 121] y3 HE.out.fine HP.out
 rw [hsb] at hT
 have HT := Lib.hid hT
 have HSB := Lib.hid hsb
 clear hT hsb
 go_wp2_with fail
 refine HT.out.mono ?_
 rintro ev y4 ⟨rfl, hp, hk⟩
 have HJ' := Lib.hid (HJ.out.rd HP.out hk)
 have HK' := Lib.hid (HK.out.trans hk)
 have HE' := Lib.hid (HE.out.one hlo hk)
 clear HP HJ HK HE HT
 have HP := Lib.hid hp
 have HJ := HJ'
 have HK := HK'
 have HE := HE'
 clear hp hk HJ' HK' HE'
 go_upto_if 21 with (fail)
 go_cut [] (fun wx => ∃ n r x', Rl retryP q2 x2 n r x' ∧ JbIs wx w0.heap.size jb (⟨at_, 0, a2, [], [], [], ⟨[], zV⟩, ⟨[], zV⟩, n⟩ : Jb) (.slice A2 a2.length c2) (.slice none 0 0) (.slice none 0 0) ∧ RdIs wx b r x' ∧ Keeps [b] w0 wx ∧ r.length ≤ q2.length)
 case first =>
  cases sb with
  | false =>
   have hp : RdIs y4 b q2 x2 := HP.out
   go_wp2
   go_meet
   exact ⟨0, q2, x2, Rl.stay (fun e => by
    subst e
    unfold retryP
    have hs : seeP [114, 101, 116, 114, 121] q2 = false := HSB.out
    rw [hs]
    rfl), HJ.out, hp, HK.out, Nat.le_refl _⟩
  | true =>
   have hxn : x2 = none ∧ seeP [114, 101, 116, 114, 121] q2 = true := by
    have := HSB.out
    cases hx : x2 with
    | some y => rw [hx] at this; cases this
    | none => rw [hx] at this; exact ⟨rfl, this⟩
   obtain ⟨rfl, hse⟩ := hxn
   have HSE := Lib.hid hse
   clear hse HSB
   obtain ⟨q, hq⟩ : ∃ q, q2.tail = q := ⟨_, rfl⟩
   have hpq : RdIs y4 b q none := by rw [← hq]; exact HP.out
   have HPq := Lib.hid hpq
   have HQT := Lib.hid hq
   have HQL : Hid (q.length ≤ q2.length) := Lib.hid (by rw [← hq, List.length_tail]; omega)
   obtain ⟨kd, hkd⟩ : ∃ kd, (hdT q).kind = kd := ⟨_, rfl⟩
   obtain ⟨tx, htx⟩ : ∃ tx, (hdT q).text = tx := ⟨_, rfl⟩
   obtain ⟨at2, hat2⟩ : ∃ at_, (hdT q).at_ = at_ := ⟨_, rfl⟩
   have HKD := Lib.hid hkd
   have HTX := Lib.hid htx
   obtain ⟨g, o, c, c0, c1, c2, -, lb, lg, -, hn, hc, hc2, k0, k1, k2, hw⟩ := hpq.open'
   rw [hkd] at k0
   rw [htx] at k1
   rw [hat2] at k2
   have hw1 : tx.length ≤ 1000000 := by rw [← htx]; exact hw.1.1.1
   have hn2 : (0 : Int) < (q.length : Int) := by omega
   have HBAD : Hid (∀ e, retryP q2 = .error (e, (hdT q).at_) → Rl retryP q2 none 0 q (badX none e q)) := Lib.hid (fun e h => h)
   have hdg : kd = 2 → ∀ c ∈ tx, digC c = true := by rw [← htx, ← hkd]; exact hw.1.1.2.1
   have HDG := Lib.hid hdg
   clear hpq hkd htx hat2 hq HP hw hdg
   have htb := Blk.new y4 81 #[.int .i64 kd, .string (bs tx), .int .i64 at2]
   have hal := (Keeps.refl [] y4).alloc (.cells #[.int .i64 kd, .string (bs tx), .int .i64 at2] 81)
   have HPa := Lib.hid (HPq.out.keep hal)
   have HJa := Lib.hid (HJ.out.keep hal)
   have HKa := Lib.hid (HK.out.trans hal.of_nil)
   have HEa := Lib.hid (HE.out.quiet hal)
   go_upto_region 6 with (fail)
   obtain ⟨T, hT⟩ : ∃ T, y4.heap.size = T := ⟨_, rfl⟩
   rw [hT] at htb ⊢
   obtain ⟨y5, hy⟩ : ∃ z, y4.alloc (.cells #[.int .i64 kd, .string (bs tx), .int .i64 at2] 81) = z := ⟨_, rfl⟩
   rw [hy] at htb HPa HJa HKa HEa ⊢
   have HTB := Lib.hid htb
   have t0 : y5.cell? ⟨T, 0, none⟩ = some (.int .i64 kd) := htb.cell 0
   have t1 : y5.cell? ⟨T, 1, none⟩ = some (.string (bs tx)) := htb.cell 1
   have lt := htb.lt
   clear hal hT hy htb c0 c1 c2 lb lg hn hc hc2 k0 k1 k2 hn2 HPq HJ HK HE
   by_cases hk2 : kd = 2
   ·subst hk2
    have hdg := HDG.out rfl
    rcases ha : Lib.atoiAll tx with n | _ | _
    ·have hpos := atoi_pos ha hdg
     by_cases h5 : 5 < n
     ·have HRL : Hid (Rl retryP q2 none 0 q (badX none 4 q)) := Lib.hid (HBAD.out 4 (by
       unfold retryP
       rw [if_pos HSE.out, HQT.out, if_neg (by rw [HKD.out]; simp), HTX.out, ha]
       exact if_pos h5))
      have HAT := Lib.hid (fun W hW => atoi_yes ha hw1 W hW)
      clear ha hpos hdg
      go_wp2_with fail
      refine (HAT.out _ HEa.out.fb.env).mono ?_
      rintro ev w3 ⟨rfl, hk⟩
      have HP3 := Lib.hid (HPa.out.keep hk)
      have HJ3 := Lib.hid (HJa.out.keep hk)
      have HK3 := Lib.hid (HKa.out.trans hk.of_nil)
      have HE3 := Lib.hid (HEa.out.quiet hk)
      have t0' : w3.cell? ⟨T, 0, none⟩ = some (.int .i64 2) := (HTB.out.keep hk (by simp)).cell 0
      have lt' := (HTB.out.keep hk (by simp)).lt
      clear hk t0 t1 lt HPa HJa HKa HEa HTB HAT
      go_wp2_with fail
      refine (rfails_any 4 (by decide) w3 HE3.out.fine HP3.out).mono ?_
      rintro ev w4 ⟨rfl, hp, hk⟩
      have HJ4 := Lib.hid (HJ3.out.rd HP3.out hk)
      have HK4 := Lib.hid (HK3.out.trans hk)
      have HP4 := Lib.hid hp
      clear hp hk t0' lt'
      go_wp2
      go_meet
      exact ⟨0, q, badX none 4 q, HRL.out, HJ4.out, HP4.out, HK4.out, HQL.out⟩
     ·have HRL : Hid (Rl retryP q2 none n q.tail none) := Lib.hid ⟨rfl, by
       unfold retryP
       rw [if_pos HSE.out, HQT.out, if_neg (by rw [HKD.out]; simp), HTX.out, ha]
       show (if 5 < n then _ else _) = _
       rw [if_neg h5]⟩
      have HAT := Lib.hid (fun W hW => atoi_yes ha hw1 W hW)
      clear ha hpos hdg
      go_wp2_with fail
      refine (HAT.out _ HEa.out.fb.env).mono ?_
      rintro ev w3 ⟨rfl, hk⟩
      have HP3 := Lib.hid (HPa.out.keep hk)
      have HJ3 := Lib.hid (HJa.out.keep hk)
      have HK3 := Lib.hid (HKa.out.trans hk.of_nil)
      have HE3 := Lib.hid (HEa.out.quiet hk)
      have t0' : w3.cell? ⟨T, 0, none⟩ = some (.int .i64 2) := (HTB.out.keep hk (by simp)).cell 0
      have lt' := (HTB.out.keep hk (by simp)).lt
      clear hk t0 t1 lt HPa HJa HKa HEa HTB HAT
      have hk5q : (hdT q).kind ≠ 5 := by rw [HKD.out]; decide
      have HK5Q := Lib.hid hk5q
      obtain ⟨g, o, c, d0, d1, d2, ⟨z0, -⟩, lb, lg, -, hn, hc, hc2, -⟩ := HP3.out.open'
      have hmore : 1 < q.length := by have := (HP3.out.endT.tail hk5q).pos; rw [List.length_tail] at this; omega
      have hm1 : (1 : Int) ≤ (q.length : Int) := by omega
      have hm2 : (1 : Int) < (c : Int) := by omega
      have jf := HJ3.out.blk.frozen 14
      have jc : w3.cell? ⟨jb, 14, none⟩ = some (.int .i64 0) := HJ3.out.blk.cell 14
      have lj := HJ3.out.blk.lt
      have hkb : Keeps [jb] w3 (w3.setCell ⟨jb, 14, none⟩ (.int .i64 n)) := (Keeps.refl _ _).setCell (.inl (by simp)) _
      have HJ4 : Hid (JbIs (w3.setCell ⟨jb, 14, none⟩ (.int .i64 n)) w0.heap.size jb (⟨at_, 0, a2, [], [], [], ⟨[], zV⟩, ⟨[], zV⟩, n⟩ : Jb) (.slice A2 a2.length c2) (.slice none 0 0) (.slice none 0 0)) := Lib.hid (HJ3.out.box hkb ((HJ3.out.blk.set 14 (.int .i64 n)).congr (by rfl)) rfl rfl rfl)
      have HP4 := Lib.hid (HP3.out.box HJ3.out hkb)
      have HK4 := Lib.hid (HK3.out.box HJB.out hkb)
      have hjne := HJ3.out.blk.ty.ne HP3.out.ty (by decide)
      have HPC : Hid ((w3.setCell ⟨jb, 14, none⟩ (.int .i64 n)).cell? ⟨b, 0, none⟩ = some (.slice (some ⟨g, o, none⟩) q.length c)) := Lib.hid (hkb.cell_of d0 (by simpa using hjne.symm))
      have HSTP := Lib.hid (fun n' a d => @RdIs.step _ b q none g o c HP4.out HPC.out HK5Q.out n' a d)
      clear hk5q hmore hkb HP3 HK3 HJ3 d1 d2
      go_wp2
      go_meet
      have hst := HSTP.out (q.length - 1) ⟨g, o + 3, none⟩ (c - 1) rfl rfl rfl
      exact ⟨n, q.tail, none, HRL.out, HJ4.out.rd HP4.out hst.2, hst.1, HK4.out.trans hst.2, by have := HQL.out; rw [List.length_tail]; omega⟩
    all_goals
     have HRL : Hid (Rl retryP q2 none 0 q (badX none 4 q)) := Lib.hid (HBAD.out 4 (by
      unfold retryP
      rw [if_pos HSE.out, HQT.out, if_neg (by rw [HKD.out]; simp), HTX.out, ha]
      try rfl))
     have HAT := Lib.hid (fun W hW => atoi_none (s := tx) (fun n h => by rw [ha] at h; cases h) hw1 W hW)
     clear ha hdg
     go_wp2_with fail
     refine (HAT.out _ HEa.out.fb.env).mono ?_
     rintro ev w3 ⟨⟨n0, et, ep, rfl⟩, hk⟩
     have HP3 := Lib.hid (HPa.out.keep hk)
     have HJ3 := Lib.hid (HJa.out.keep hk)
     have HK3 := Lib.hid (HKa.out.trans hk.of_nil)
     have HE3 := Lib.hid (HEa.out.quiet hk)
     have t0' : w3.cell? ⟨T, 0, none⟩ = some (.int .i64 2) := (HTB.out.keep hk (by simp)).cell 0
     have lt' := (HTB.out.keep hk (by simp)).lt
     clear hk t0 t1 lt HPa HJa HKa HEa HTB HAT
     go_wp2_with fail
     refine (rfails_any 4 (by decide) w3 HE3.out.fine HP3.out).mono ?_
     rintro ev w4 ⟨rfl, hp, hk⟩
     have HJ4 := Lib.hid (HJ3.out.rd HP3.out hk)
     have HK4 := Lib.hid (HK3.out.trans hk)
     have HP4 := Lib.hid hp
     clear hp hk t0' lt'
     go_wp2
     go_meet
     exact ⟨0, q, badX none 4 q, HRL.out, HJ4.out, HP4.out, HK4.out, HQL.out⟩
   ·have e2 : (kd != 2) = true := by rw [bne_iff_ne]; exact hk2
    rcases ha : Lib.atoiAll tx with n | _ | _
    ·have HRL : Hid (Rl retryP q2 none 0 q (badX none 3 q)) := Lib.hid (HBAD.out 3 (by unfold retryP; rw [if_pos HSE.out, HQT.out, if_pos (by rw [HKD.out]; exact hk2)]; rfl))
     have HAT := Lib.hid (fun W hW => atoi_yes ha hw1 W hW)
     clear ha hk2
     go_wp2_with fail
     refine (HAT.out _ HEa.out.fb.env).mono ?_
     rintro ev w3 ⟨rfl, hk⟩
     have HP3 := Lib.hid (HPa.out.keep hk)
     have HJ3 := Lib.hid (HJa.out.keep hk)
     have HK3 := Lib.hid (HKa.out.trans hk.of_nil)
     have HE3 := Lib.hid (HEa.out.quiet hk)
     have t0' : w3.cell? ⟨T, 0, none⟩ = some (.int .i64 kd) := (HTB.out.keep hk (by simp)).cell 0
     have lt' := (HTB.out.keep hk (by simp)).lt
     clear hk t0 t1 lt HPa HJa HKa HEa HTB HAT
     go_wp2_with fail
     refine (rfails_any 3 (by decide) w3 HE3.out.fine HP3.out).mono ?_
     rintro ev w4 ⟨rfl, hp, hk⟩
     have HJ4 := Lib.hid (HJ3.out.rd HP3.out hk)
     have HK4 := Lib.hid (HK3.out.trans hk)
     have HP4 := Lib.hid hp
     clear hp hk t0' lt'
     go_wp2
     go_meet
     exact ⟨0, q, badX none 3 q, HRL.out, HJ4.out, HP4.out, HK4.out, HQL.out⟩
    all_goals
     have HRL : Hid (Rl retryP q2 none 0 q (badX none 3 q)) := Lib.hid (HBAD.out 3 (by unfold retryP; rw [if_pos HSE.out, HQT.out, if_pos (by rw [HKD.out]; exact hk2)]; rfl))
     have HAT := Lib.hid (fun W hW => atoi_none (s := tx) (fun n h => by rw [ha] at h; cases h) hw1 W hW)
     clear ha hk2
     go_wp2_with fail
     refine (HAT.out _ HEa.out.fb.env).mono ?_
     rintro ev w3 ⟨⟨n0, et, ep, rfl⟩, hk⟩
     have HP3 := Lib.hid (HPa.out.keep hk)
     have HJ3 := Lib.hid (HJa.out.keep hk)
     have HK3 := Lib.hid (HKa.out.trans hk.of_nil)
     have HE3 := Lib.hid (HEa.out.quiet hk)
     have t0' : w3.cell? ⟨T, 0, none⟩ = some (.int .i64 kd) := (HTB.out.keep hk (by simp)).cell 0
     have lt' := (HTB.out.keep hk (by simp)).lt
     clear hk t0 t1 lt HPa HJa HKa HEa HTB HAT
     go_wp2_with fail
     refine (rfails_any 3 (by decide) w3 HE3.out.fine HP3.out).mono ?_
     rintro ev w4 ⟨rfl, hp, hk⟩
     have HJ4 := Lib.hid (HJ3.out.rd HP3.out hk)
     have HK4 := Lib.hid (HK3.out.trans hk)
     have HP4 := Lib.hid hp
     clear hp hk t0' lt'
     go_wp2
     go_meet
     exact ⟨0, q, badX none 3 q, HRL.out, HJ4.out, HP4.out, HK4.out, HQL.out⟩
 case rest =>
  obtain ⟨n4, r4, x4, hr, hj, hp, hk, hll'⟩ := hcut
  obtain ⟨yc, rfl⟩ : ∃ y : World, y = wc := ⟨_, rfl⟩
  have HIM' : Hid (∀ i l' x', Rl (joS3 at_ a2 n4) r4 x4 i l' x' → Rl jobP l x i l' x') := Lib.hid (fun i l' x' hq => HIM.out i l' x' (Rl.bind (Q := fun a => joS3 at_ a2 a) hr hq))
  clear HIM hr HP HJ HK HE HSB
  have HIM := HIM'
  have HP := Lib.hid hp
  have HJ := Lib.hid hj
  have HK := Lib.hid hk
  have HE := Lib.hid (HE0.out.one hlo hk)
  clear hp hj hk HIM'
  have HLR := Lib.hid (Nat.le_trans hll' HLQ.out)
  clear hll' HLQ
  have HLQ := HLR
  clear HLR
  have HC := Lib.hid (rmust_any [61] yc HE.out.fine (HE.out.fne hlo) HP.out)
  go_wp2_with fail
  refine HC.out.mono ?_
  rintro ev y21 ⟨rfl, ⟨q21, x21, hp, hr, hll'⟩, hk⟩
  have HIM' : Hid (∀ i l' x', Rl (joS4 at_ a2 n4) q21 x21 i l' x' → Rl jobP l x i l' x') := Lib.hid (fun i l' x' hq => HIM.out i l' x' (Rl.must hr hq))
  clear HIM hr
  have HIM := HIM'
  clear HIM'
  have HJ' := Lib.hid (HJ.out.rd HP.out hk)
  have HK' := Lib.hid (HK.out.trans hk)
  have HE' := Lib.hid (HE.out.one hlo hk)
  have HP' := Lib.hid hp
  clear HJ HK HE HP hk hp HC
  have HJ := HJ'
  have HK := HK'
  have HE := HE'
  have HP := HP'
  clear HJ' HK' HE' HP'
  have HLR := Lib.hid (Nat.le_trans hll' HLQ.out)
  clear hll' HLQ
  have HLQ := HLR
  clear HLR
  obtain ⟨bx, hbx⟩ : ∃ bx, x21.isNone = bx := ⟨_, rfl⟩
  have hC := ok_any y21 HE.out.fine HP.out
  rw [hbx] at hC
  have HC := Lib.hid hC
  have HBX := Lib.hid hbx
  clear hC hbx
  go_wp2_with fail
  refine HC.out.mono ?_
  rintro ev y22 ⟨rfl, hk⟩
  have HJ' := Lib.hid (HJ.out.keep hk)
  have HK' := Lib.hid (HK.out.trans hk.of_nil)
  have HE' := Lib.hid (HE.out.quiet hk)
  have HP' := Lib.hid (HP.out.keep hk)
  clear HJ HK HE HP hk HC
  have HJ := HJ'
  have HK := HK'
  have HE := HE'
  have HP := HP'
  clear HJ' HK' HE' HP'
  go_upto_if 60 with (fail)
  go_cut [] (fun wx => ∃ j v2 v3 v4 r x', Hid (JbIs wx w0.heap.size jb j v2 v3 v4) ∧ Hid (RdIs wx b r x') ∧ Hid (∀ i l' x'', Rl (joS5 j) r x' i l' x'' → Rl jobP l x i l' x'') ∧ Hid (Keeps [b] w0 wx) ∧ Hid (r.length ≤ q1.length))
  case first =>
   cases x21 with
   | some y =>
    have hb : bx = false := HBX.out.symm
    subst hb
    have HD : Hid (∀ i l', Rl jobP l x i l' (some y)) := Lib.hid (fun i l' => HIM.out i l' _ rfl)
    go_wp2
    go_meet
    exact ⟨_, _, _, _, q21, some y, HJ, HP, Lib.hid (fun i l' x'' hq => by have := Rl.dead hq; subst this; exact HD.out i l'), HK, HLQ⟩
   | none =>
    have hb : bx = true := HBX.out.symm
    subst hb
    have HB := Lib.hid (rbody_any at_ a2 n4 w0 y22 HE0.out hlo HP.out HK.out HJB.out HJ.out (Nat.le_trans HLQ.out HLL.out))
    go_wp2_with fail
    refine HB.out.mono ?_
    rintro ev y23 ⟨rfl, j, v2', v3', v4', r, x', hj, hp, hr, hle, hk⟩
    have HJ2 := Lib.hid hj
    have HP2 := Lib.hid hp
    have HK2 := Lib.hid hk
    have HR2 := Lib.hid hr
    have HL2 := Lib.hid (Nat.le_trans hle HLQ.out)
    clear hj hp hk hr hle HB
    go_wp2
    go_meet
    exact ⟨j, v2', v3', v4', r, x', HJ2, HP2, Lib.hid (fun i l' x'' hq => HIM.out i l' x'' (Rl.bind (Q := fun a => joS5 a) HR2.out hq)), HK2, HL2⟩
  case rest =>
   obtain ⟨⟨at3, code3, outs3, ins3, cols3, op3, left3, right3, retry3⟩, v2', v3', v4', r, x', HJ', HP', HIM', HK', HLQ'⟩ := hcut
   obtain ⟨y24, rfl⟩ : ∃ y : World, y = wc := ⟨_, rfl⟩
   clear HJ HP HIM HK HLQ HE HBX
   have HJ := HJ'
   have HP := HP'
   have HIM := HIM'
   have HK := HK'
   have HLQ := HLQ'
   have HE := Lib.hid (HE0.out.one hlo HK.out)
   clear HJ' HP' HIM' HK' HLQ'
   have HC := Lib.hid (rmust_any [59] y24 HE.out.fine (HE.out.fne hlo) HP.out)
   go_wp2_with fail
   refine HC.out.mono ?_
   rintro ev y25 ⟨rfl, ⟨q25, x25, hp, hr, hll'⟩, hk⟩
   have HIM' : Hid (∀ i l' x', Rl (fun r => .ok ((⟨at3, code3, outs3, ins3, cols3, op3, left3, right3, retry3⟩ : Jb), r)) q25 x25 i l' x' → Rl jobP l x i l' x') := Lib.hid (fun i l' x' hq => HIM.out i l' x' (Rl.must hr hq))
   clear HIM hr
   have HIM := HIM'
   clear HIM'
   have HJ' := Lib.hid (HJ.out.rd HP.out hk)
   have HK' := Lib.hid (HK.out.trans hk)
   have HE' := Lib.hid (HE.out.one hlo hk)
   have HP' := Lib.hid hp
   clear HJ HK HE HP hk hp HC
   have HJ := HJ'
   have HK := HK'
   have HE := HE'
   have HP := HP'
   clear HJ' HK' HE' HP'
   have HLR := Lib.hid (Nat.le_trans hll' HLQ.out)
   clear hll' HLQ
   have HLQ := HLR
   clear HLR
   have HFIN : Hid (Rl jobP l x (⟨at3, code3, outs3, ins3, cols3, op3, left3, right3, retry3⟩ : Jb) q25 x25) := Lib.hid (HIM.out _ _ _ (Rl.stay (fun _ => rfl)))
   obtain ⟨A2, c2, hv2, -⟩ := own_form HJ.out.o2
   obtain ⟨A3, c3, hv3, -⟩ := own_form HJ.out.o3
   obtain ⟨A4, c4, hv4, -⟩ := own_form HJ.out.o4
   subst hv2 hv3 hv4
   have HRB := Lib.hid (HRB0.out.keep HK.out HRBB.out)
   have jc0 : y25.cell? ⟨jb, 0, none⟩ = some (.int .i64 at3) := HJ.out.blk.cell 0
   have rc0 : y25.cell? ⟨rb, 0, none⟩ = some (.int .i64 0) := HRB.out.cell 0
   have rf0 := HRB.out.frozen 0
   have jc1 : y25.cell? ⟨jb, 1, none⟩ = some (.int .i64 code3) := HJ.out.blk.cell 1
   have rc1 : y25.cell? ⟨rb, 1, none⟩ = some (.int .i64 0) := HRB.out.cell 1
   have rf1 := HRB.out.frozen 1
   have jc2 : y25.cell? ⟨jb, 2, none⟩ = some (.slice A2 outs3.length c2) := HJ.out.blk.cell 2
   have rc2 : y25.cell? ⟨rb, 2, none⟩ = some (.slice none 0 0) := HRB.out.cell 2
   have rf2 := HRB.out.frozen 2
   have jc3 : y25.cell? ⟨jb, 3, none⟩ = some (.slice A3 ins3.length c3) := HJ.out.blk.cell 3
   have rc3 : y25.cell? ⟨rb, 3, none⟩ = some (.slice none 0 0) := HRB.out.cell 3
   have rf3 := HRB.out.frozen 3
   have jc4 : y25.cell? ⟨jb, 4, none⟩ = some (.slice A4 cols3.length c4) := HJ.out.blk.cell 4
   have rc4 : y25.cell? ⟨rb, 4, none⟩ = some (.slice none 0 0) := HRB.out.cell 4
   have rf4 := HRB.out.frozen 4
   have jc5 : y25.cell? ⟨jb, 5, none⟩ = some (.string (bs op3)) := HJ.out.blk.cell 5
   have rc5 : y25.cell? ⟨rb, 5, none⟩ = some (.string ⟨#[]⟩) := HRB.out.cell 5
   have rf5 := HRB.out.frozen 5
   have jc6 : y25.cell? ⟨jb, 6, none⟩ = some (.string (bs left3.col)) := HJ.out.blk.cell 6
   have rc6 : y25.cell? ⟨rb, 6, none⟩ = some (.string ⟨#[]⟩) := HRB.out.cell 6
   have rf6 := HRB.out.frozen 6
   have jc7 : y25.cell? ⟨jb, 7, none⟩ = some (.int .i64 left3.val.kind) := HJ.out.blk.cell 7
   have rc7 : y25.cell? ⟨rb, 7, none⟩ = some (.int .i64 0) := HRB.out.cell 7
   have rf7 := HRB.out.frozen 7
   have jc8 : y25.cell? ⟨jb, 8, none⟩ = some (.int .i64 left3.val.num) := HJ.out.blk.cell 8
   have rc8 : y25.cell? ⟨rb, 8, none⟩ = some (.int .i64 0) := HRB.out.cell 8
   have rf8 := HRB.out.frozen 8
   have jc9 : y25.cell? ⟨jb, 9, none⟩ = some (.string (bs left3.val.word)) := HJ.out.blk.cell 9
   have rc9 : y25.cell? ⟨rb, 9, none⟩ = some (.string ⟨#[]⟩) := HRB.out.cell 9
   have rf9 := HRB.out.frozen 9
   have jc10 : y25.cell? ⟨jb, 10, none⟩ = some (.string (bs right3.col)) := HJ.out.blk.cell 10
   have rc10 : y25.cell? ⟨rb, 10, none⟩ = some (.string ⟨#[]⟩) := HRB.out.cell 10
   have rf10 := HRB.out.frozen 10
   have jc11 : y25.cell? ⟨jb, 11, none⟩ = some (.int .i64 right3.val.kind) := HJ.out.blk.cell 11
   have rc11 : y25.cell? ⟨rb, 11, none⟩ = some (.int .i64 0) := HRB.out.cell 11
   have rf11 := HRB.out.frozen 11
   have jc12 : y25.cell? ⟨jb, 12, none⟩ = some (.int .i64 right3.val.num) := HJ.out.blk.cell 12
   have rc12 : y25.cell? ⟨rb, 12, none⟩ = some (.int .i64 0) := HRB.out.cell 12
   have rf12 := HRB.out.frozen 12
   have jc13 : y25.cell? ⟨jb, 13, none⟩ = some (.string (bs right3.val.word)) := HJ.out.blk.cell 13
   have rc13 : y25.cell? ⟨rb, 13, none⟩ = some (.string ⟨#[]⟩) := HRB.out.cell 13
   have rf13 := HRB.out.frozen 13
   have jc14 : y25.cell? ⟨jb, 14, none⟩ = some (.int .i64 retry3) := HJ.out.blk.cell 14
   have rc14 : y25.cell? ⟨rb, 14, none⟩ = some (.int .i64 0) := HRB.out.cell 14
   have rf14 := HRB.out.frozen 14
   have lj := HJ.out.blk.lt
   have lr := HRB.out.lt
   go_wp2
   have hb7 := (((((((((((((((HRB.out.set 0 (.int .i64 at3)).set 1 (.int .i64 code3)).set 2 (.slice A2 outs3.length c2)).set 3 (.slice A3 ins3.length c3)).set 4 (.slice A4 cols3.length c4)).set 5 (.string (bs op3))).set 6 (.string (bs left3.col))).set 7 (.int .i64 left3.val.kind)).set 8 (.int .i64 left3.val.num)).set 9 (.string (bs left3.val.word))).set 10 (.string (bs right3.col))).set 11 (.int .i64 right3.val.kind)).set 12 (.int .i64 right3.val.num)).set 13 (.string (bs right3.val.word))).set 14 (.int .i64 retry3))
   have z0 := hb7.cell 0
   have z1 := hb7.cell 1
   have z2 := hb7.cell 2
   have z3 := hb7.cell 3
   have z4 := hb7.cell 4
   have z5 := hb7.cell 5
   have z6 := hb7.cell 6
   have z7 := hb7.cell 7
   have z8 := hb7.cell 8
   have z9 := hb7.cell 9
   have z10 := hb7.cell 10
   have z11 := hb7.cell 11
   have z12 := hb7.cell 12
   have z13 := hb7.cell 13
   have z14 := hb7.cell 14
   refine bodyPost_ret (v := .agg #[.int .i64 at3, .int .i64 code3, .slice A2 outs3.length c2, .slice A3 ins3.length c3, .slice A4 cols3.length c4, .string (bs op3), .string (bs left3.col), .int .i64 left3.val.kind, .int .i64 left3.val.num, .string (bs left3.val.word), .string (bs right3.col), .int .i64 right3.val.kind, .int .i64 right3.val.num, .string (bs right3.val.word), .int .i64 retry3]) (by simp [results, Tryz.results30, go_sem, z0, z1, z2, z3, z4, z5, z6, z7, z8, z9, z10, z11, z12, z13, z14]) rfl ?_
   have hkr : Keeps [rb] y25 (((((((((((((((y25.setCell ⟨rb, 0, none⟩ (.int .i64 at3)).setCell ⟨rb, 1, none⟩ (.int .i64 code3)).setCell ⟨rb, 2, none⟩ (.slice A2 outs3.length c2)).setCell ⟨rb, 3, none⟩ (.slice A3 ins3.length c3)).setCell ⟨rb, 4, none⟩ (.slice A4 cols3.length c4)).setCell ⟨rb, 5, none⟩ (.string (bs op3))).setCell ⟨rb, 6, none⟩ (.string (bs left3.col))).setCell ⟨rb, 7, none⟩ (.int .i64 left3.val.kind)).setCell ⟨rb, 8, none⟩ (.int .i64 left3.val.num)).setCell ⟨rb, 9, none⟩ (.string (bs left3.val.word))).setCell ⟨rb, 10, none⟩ (.string (bs right3.col))).setCell ⟨rb, 11, none⟩ (.int .i64 right3.val.kind)).setCell ⟨rb, 12, none⟩ (.int .i64 right3.val.num)).setCell ⟨rb, 13, none⟩ (.string (bs right3.val.word))).setCell ⟨rb, 14, none⟩ (.int .i64 retry3)) := (((((((((((((((Keeps.refl [rb] y25).setCell (.inl (by simp)) _).setCell (.inl (by simp)) _).setCell (.inl (by simp)) _).setCell (.inl (by simp)) _).setCell (.inl (by simp)) _).setCell (.inl (by simp)) _).setCell (.inl (by simp)) _).setCell (.inl (by simp)) _).setCell (.inl (by simp)) _).setCell (.inl (by simp)) _).setCell (.inl (by simp)) _).setCell (.inl (by simp)) _).setCell (.inl (by simp)) _).setCell (.inl (by simp)) _).setCell (.inl (by simp)) _
   have hL : ∀ x ∈ [rb], OfTy y25 x 45 := fun x hx => by rw [List.mem_singleton.1 hx]; exact HRB.out.ty
   exact ⟨(⟨at3, code3, outs3, ins3, cols3, op3, left3, right3, retry3⟩ : Jb), _, _, _, q25, x25, rfl, ⟨own_far (own_low HJ.out.o2 HW0.out.size) hkr hL (by decide), own_far (own_low HJ.out.o3 HW0.out.size) hkr hL (by decide), own_far (own_low HJ.out.o4 HW0.out.size) hkr hL (by decide)⟩, HP.out.far hkr (fun x hx => ⟨45, hL x hx, by decide, by decide⟩), HFIN.out, Nat.le_trans HLQ.out HLQ1.out, fun e1 e2 => Nat.lt_of_le_of_lt HLQ.out (HST.out e1 e2), (HW0.out.of_nil.trans HK.out).trans' hkr (fun x hx hl => by rw [List.mem_singleton.1 hx] at hl; have := HRG.out; omega)⟩
end Go.Proofs.YtnjjajanfedjiaaGreatDoor
namespace Go.Proofs.YtnjjajanfedjiaaGreatDoor
def hitB (d : Nat) (S : Bs) (ms : List Bs) : Bool := ms.any fun m => decide (m.length = d) && Lib.hasPrefix S m
def hitN (d : Nat) (S : Bs) (ms : List Bs) : Nat := if hitB d S ms then d else 0
theorem hitB_step {d : Nat} {S : Bs} {ms : List Bs} {r : Nat} (hr : r < ms.length) : hitB d S (ms.take (r + 1)) = (hitB d S (ms.take r) || (decide (ms[r].length = d) && Lib.hasPrefix S ms[r])) := by
 unfold hitB
 rw [List.take_succ_eq_append_getElem hr, List.any_append]
 simp
theorem hitN_yes {d : Nat} {S : Bs} {ms : List Bs} {r : Nat} (hr : r < ms.length) (h1 : ms[r].length = d) (h2 : Lib.hasPrefix S ms[r] = true) : hitN d S (ms.take (r + 1)) = d := by
 unfold hitN
 rw [hitB_step hr, h2, decide_eq_true h1]
 simp
theorem hitN_no {d : Nat} {S : Bs} {ms : List Bs} {r : Nat} (hr : r < ms.length) (h : ms[r].length = d → Lib.hasPrefix S ms[r] = false) : hitN d S (ms.take (r + 1)) = hitN d S (ms.take r) := by
 unfold hitN
 rw [hitB_step hr]
 by_cases h1 : ms[r].length = d
 ·rw [h h1]
  simp
 ·rw [decide_eq_false h1]
  simp
theorem hitN_le (d : Nat) (S : Bs) (ms : List Bs) : hitN d S ms ≤ d := by
 unfold hitN
 split <;> omega
theorem markN_len (d : Nat) (S : Bs) (rest : List Bs) : ∀ ms : List Bs, (∀ m ∈ ms, m.length = d) → markN S (ms ++ rest) = if ms.any (Lib.hasPrefix S) then d else markN S rest
 | [], _ => rfl
 | m :: ms, h => by
  have ih := markN_len d S rest ms (fun x hx => h x (List.mem_cons_of_mem _ hx))
  show (if Lib.hasPrefix S m then m.length else markN S (ms ++ rest)) = _
  rw [List.any_cons, ih]
  cases Lib.hasPrefix S m with
  | true =>
   rw [Bool.true_or, if_pos rfl, if_pos rfl]
   exact h m (List.mem_cons_self ..)
  | false =>
   rw [Bool.false_or]
   exact if_neg (by decide)
theorem hitB_filter (d : Nat) (S : Bs) (ms : List Bs) : hitB d S ms = (ms.filter fun m => decide (m.length = d)).any (Lib.hasPrefix S) := by
 unfold hitB
 rw [List.any_filter]
theorem hitN_or (d : Nat) (S : Bs) (ms : List Bs) : hitN d S ms = 0 ∨ hitN d S ms = d := by
 unfold hitN
 split
 ·exact .inr rfl
 ·exact .inl rfl
theorem mark_hit (S : Bs) : markN S marksL = if hitN 2 S marksL ≠ 0 then 2 else hitN 1 S marksL := by
 unfold hitN
 have e2 : (marksL.filter fun m => decide (m.length = 2)) = marksL.take 3 := by decide
 have e1 : (marksL.filter fun m => decide (m.length = 1)) = marksL.drop 3 := by decide
 rw [hitB_filter, hitB_filter, e2, e1]
 have h := markN_len 2 S (marksL.drop 3) (marksL.take 3) (by decide)
 have h1 := markN_len 1 S [] (marksL.drop 3) (by decide)
 rw [List.append_nil] at h1
 rw [List.take_append_drop] at h
 rw [h, h1]
 cases (marksL.take 3).any (Lib.hasPrefix S) <;> simp [markN]
theorem next_low {c : UInt8} {t : Bs} (h : letC c = true) : nextL (c :: t) = (1, runN ldC (c :: t)) := by
 unfold nextL
 exact if_pos h
theorem next_dig {c : UInt8} {t : Bs} (h : letC c = false) (h2 : digC c = true) : nextL (c :: t) = (2, runN digC (c :: t)) := by
 unfold nextL
 exact (if_neg (by simp [h])).trans (if_pos h2)
theorem next_quo {c : UInt8} {t : Bs} (h : letC c = false) (h2 : digC c = false) (h3 : c = 39) : nextL (c :: t) = (3, if Lib.indexByte t 39 < 0 then 0 else (Lib.indexByte t 39).toNat + 2) := by
 unfold nextL
 exact (if_neg (by simp [h])).trans ((if_neg (by simp [h2])).trans (if_pos h3))
theorem next_mark {c : UInt8} {t : Bs} (h : letC c = false) (h2 : digC c = false) (h3 : c ≠ 39) : nextL (c :: t) = (4, markN (c :: t) marksL) := by
 unfold nextL
 exact (if_neg (by simp [h])).trans ((if_neg (by simp [h2])).trans (if_neg h3))
theorem index_quote (t : Bs) : Lib.index t [39] = Lib.indexByte t 39 := Lib.index_one t 39
end Go.Proofs.YtnjjajanfedjiaaGreatDoor
namespace Go.Proofs.YtnjjajanfedjiaaGreatDoor
open Go.RowKit Go.BigFrame
attribute [local go_sem] bs_size bs_extract bs_append bs_toList
theorem letter_any (b : UInt8) (w : World) : Calls Tryz.prog 110 #[.int .u8 (b.toNat : Int)] w fun e w' => e = .returned (.bool (letC b)) ∧ w = w' := by
 obtain ⟨R, hR⟩ : ∃ R, letC b = R := ⟨_, rfl⟩
 rw [hR]
 have HR : Hid (R = (decide (97 ≤ b.toNat) && decide (b.toNat ≤ 122))) := Lib.hid hR.symm
 clear hR
 by_cases h1 : 97 ≤ b.toNat
 ·have t1 : (97 : Int) ≤ (b.toNat : Int) := by omega
  by_cases h2 : b.toNat ≤ 122
  ·have t2 : (b.toNat : Int) ≤ (122 : Int) := by omega
   go_enter Tryz.func110, Tryz.ntmps110
   go_wp2
   go_ret
   exact ⟨by rw [HR.out, decide_eq_true h1, decide_eq_true h2]; rfl, rfl⟩
  ·have t2 : ¬ (b.toNat : Int) ≤ (122 : Int) := by omega
   go_enter Tryz.func110, Tryz.ntmps110
   go_wp2
   go_ret
   exact ⟨by rw [HR.out, decide_eq_true h1, decide_eq_false h2]; rfl, rfl⟩
 ·have t1 : ¬ (97 : Int) ≤ (b.toNat : Int) := by omega
  go_enter Tryz.func110, Tryz.ntmps110
  go_wp2
  go_ret
  exact ⟨by rw [HR.out, decide_eq_false h1]; rfl, rfl⟩
theorem digit_any (b : UInt8) (w : World) : Calls Tryz.prog 113 #[.int .u8 (b.toNat : Int)] w fun e w' => e = .returned (.bool (digC b)) ∧ w = w' := by
 obtain ⟨R, hR⟩ : ∃ R, digC b = R := ⟨_, rfl⟩
 rw [hR]
 have HR : Hid (R = (decide (48 ≤ b.toNat) && decide (b.toNat ≤ 57))) := Lib.hid hR.symm
 clear hR
 by_cases h1 : 48 ≤ b.toNat
 ·have t1 : (48 : Int) ≤ (b.toNat : Int) := by omega
  by_cases h2 : b.toNat ≤ 57
  ·have t2 : (b.toNat : Int) ≤ (57 : Int) := by omega
   go_enter Tryz.func113, Tryz.ntmps113
   go_wp2
   go_ret
   exact ⟨by rw [HR.out, decide_eq_true h1, decide_eq_true h2]; rfl, rfl⟩
  ·have t2 : ¬ (b.toNat : Int) ≤ (57 : Int) := by omega
   go_enter Tryz.func113, Tryz.ntmps113
   go_wp2
   go_ret
   exact ⟨by rw [HR.out, decide_eq_true h1, decide_eq_false h2]; rfl, rfl⟩
 ·have t1 : ¬ (48 : Int) ≤ (b.toNat : Int) := by omega
  go_enter Tryz.func113, Tryz.ntmps113
  go_wp2
  go_ret
  exact ⟨by rw [HR.out, decide_eq_false h1]; rfl, rfl⟩
theorem ld_any (b : UInt8) (w : World) : Calls Tryz.prog 112 #[.int .u8 (b.toNat : Int)] w fun e w' => e = .returned (.bool (ldC b)) ∧ w = w' := by
 obtain ⟨R, hR⟩ : ∃ R, ldC b = R := ⟨_, rfl⟩
 rw [hR]
 have HR : Hid (R = (letC b || digC b)) := Lib.hid hR.symm
 have HL := Lib.hid (letter_any b w)
 have HD := Lib.hid (digit_any b w)
 clear hR
 cases hl : letC b with
 | true =>
  rw [hl] at HL
  have HE := Lib.hid hl
  clear hl HD
  go_enter Tryz.func112, Tryz.ntmps112
  go_wp2_with fail
  refine HL.out.mono ?_
  rintro e W2 ⟨rfl, rfl⟩
  go_wp2
  go_ret
  exact ⟨by rw [HR.out, HE.out]; rfl, rfl⟩
 | false =>
  rw [hl] at HL
  have HE := Lib.hid hl
  clear hl
  go_enter Tryz.func112, Tryz.ntmps112
  go_wp2_with fail
  refine HL.out.mono ?_
  rintro e W2 ⟨rfl, rfl⟩
  go_wp2_with fail
  refine HD.out.mono ?_
  rintro e W2 ⟨rfl, rfl⟩
  go_wp2
  go_ret
  exact ⟨by rw [HR.out, HE.out]; rfl, rfl⟩
theorem runN_at (p : UInt8 → Bool) : ∀ (s : Bs) (n : Nat), n ≤ s.length → (∀ j (_ : j < n) (hl : j < s.length), p s[j] = true) → (∀ (hl : n < s.length), p s[n] = false) → runN p s = n
 | [], n, h, _, _ => by simp at h; rw [h]; rfl
 | c :: s, 0, _, _, h2 => by
  unfold runN
  have := h2 (by simp)
  rw [if_neg (by simpa using this)]
 | c :: s, n + 1, h, h1, h2 => by
  unfold runN
  have h0 := h1 0 (by omega) (by simp)
  rw [if_pos (by simpa using h0), runN_at p s n (by simpa using h) (fun j hj hl => h1 (j + 1) (Nat.succ_lt_succ hj) (Nat.succ_lt_succ hl)) (fun hl => h2 (Nat.succ_lt_succ hl))]
set_option maxHeartbeats 2000000 in
theorem run_any (k : Nat) (he : ∀ args w, (callFunc k args).run Tryz.prog w = .ok (.enter k args) w) (p : UInt8 → Bool) (s : Bs) (hsl : s.length ≤ 2000000) (w : World) (hf : ∀ c : UInt8, Calls Tryz.prog k #[.int .u8 (c.toNat : Int)] w fun e W' => e = .returned (.bool (p c)) ∧ w = W') :
  Calls Tryz.prog 111 #[.string (bs s), .func (.func k) #[] #[]] w fun e w' => e = .returned (.int .i64 (runN p s : Nat)) ∧ w = w' := by
 have HF := Lib.hid hf
 obtain ⟨R, hR⟩ : ∃ R, runN p s = R := ⟨_, rfl⟩
 rw [hR]
 have HR := Lib.hid hR
 clear hf hR
 go_enter Tryz.func111, Tryz.ntmps111
 go_wp2
 go_loop [5] (fun i => ∃ n : Nat, n ≤ s.length ∧ i = .int .i64 n ∧ Hid (∀ j (_ : j < n) (hl : j < s.length), p s[j] = true)) (fun i => s.length - (intOf i).toNat)
 case atStart => exact ⟨0, Nat.zero_le _, rfl, Lib.hid fun j hj => absurd hj (by omega)⟩
 case round =>
  obtain ⟨n, hn, rfl, hno⟩ := hrel
  by_cases hlt : n < s.length
  ·have hi : (n : Int) < (s.length : Int) := by omega
   have HH := Lib.hid (HF.out s[n])
   have hbyte : ((bs s)[n]'(by rw [bs_size]; exact hlt)) = s[n] := bs_get s n _
   generalize hx : s[n] = x at *
   have HX := Lib.hid hx
   clear hx
   cases hp : p x with
   | true =>
    rw [hp] at HH
    have HP := Lib.hid hp
    clear hp
    go_wp2_with fail
    refine HH.out.mono ?_
    rintro e W2 ⟨rfl, rfl⟩
    go_wp2
    go_round
    case rel => exact ⟨n + 1, by omega, by go_num, Lib.hid fun j hj hl => by
     by_cases h : j < n
     ·exact hno.out j h hl
     ·obtain rfl : j = n := by omega
      rw [HX.out]; exact HP.out⟩
    case measure => simp [intOf]; omega
   | false =>
    rw [hp] at HH
    have HP := Lib.hid hp
    clear hp
    go_wp2_with fail
    refine HH.out.mono ?_
    rintro e W2 ⟨rfl, rfl⟩
    go_wp2
    go_ret
    exact ⟨by rw [← HR.out, runN_at p s n hn hno.out (fun hl => by rw [HX.out]; exact HP.out)]; rfl, rfl⟩
  ·have hi : ¬ (n : Int) < (s.length : Int) := by omega
   go_wp2
   go_ret
   exact ⟨by rw [← HR.out, runN_at p s n hn hno.out (fun hl => absurd hl hlt)]; rfl, rfl⟩
set_option maxRecDepth 100000 in
set_option maxHeartbeats 4000000 in
theorem next_any (c : UInt8) (t : Bs) (hs : t.length ≤ 1000000) (w : World) (hE : FEnv w) :
  Calls Tryz.prog 72 #[.string (bs (c :: t))] w fun e w' => e = .returned (.tuple #[.int .i64 (nextL (c :: t)).1, .int .i64 (nextL (c :: t)).2]) ∧ w = w' := by
 obtain ⟨s, hcs⟩ : ∃ s, c :: t = s := ⟨_, rfl⟩
 have hlen : 0 < s.length := by rw [← hcs]; simp
 have hlen2 : s.length ≤ 1000001 := by rw [← hcs]; simp; omega
 have hi0 : (0 : Int) < (s.length : Int) := by omega
 have hbyte : ((bs s)[0]'(by rw [bs_size]; exact hlen)) = c := by rw [bs_get]; subst hcs; rfl
 have hhd : s.headD 0 = c := by rw [← hcs]; rfl
 have htl : s.tail = t := by rw [← hcs]; rfl
 obtain ⟨R, hR⟩ : ∃ R, nextL s = R := ⟨_, rfl⟩
 rw [hcs, hR]
 unfold nextL at hR
 rw [hhd, htl] at hR
 have HR := Lib.hid hR
 have HL := Lib.hid (letter_any c w)
 have HD := Lib.hid (digit_any c w)
 clear hR
 cases hl : letC c with
 | true =>
  rw [hl] at HL
  have HX : Hid (R = (1, (runN ldC s : Nat))) := Lib.hid (by rw [← HR.out, hl]; rfl)
  have HRUN := Lib.hid (run_any 112 (fun _ _ => rfl) ldC s (by omega) w (fun c => ld_any c w))
  clear hl HD HR hcs hhd htl
  go_enter Tryz.func72, Tryz.ntmps72
  go_wp2_with fail
  refine HL.out.mono ?_
  rintro e W2 ⟨rfl, rfl⟩
  go_wp2_with fail
  refine HRUN.out.mono ?_
  rintro e W2 ⟨rfl, rfl⟩
  go_wp2
  go_ret2
  exact ⟨by rw [HX.out]; rfl, rfl⟩
 | false =>
  rw [hl] at HL
  cases hd : digC c with
  | true =>
   rw [hd] at HD
   have HX : Hid (R = (2, (runN digC s : Nat))) := Lib.hid (by rw [← HR.out, hl, hd]; rfl)
   have HRUN := Lib.hid (run_any 113 (fun _ _ => rfl) digC s (by omega) w (fun c => digit_any c w))
   clear hl hd HR hcs hhd htl
   go_enter Tryz.func72, Tryz.ntmps72
   go_wp2_with fail
   refine HL.out.mono ?_
   rintro e W2 ⟨rfl, rfl⟩
   go_wp2_with fail
   refine HD.out.mono ?_
   rintro e W2 ⟨rfl, rfl⟩
   go_wp2_with fail
   refine HRUN.out.mono ?_
   rintro e W2 ⟨rfl, rfl⟩
   go_wp2
   go_ret2
   exact ⟨by rw [HX.out]; rfl, rfl⟩
  | false =>
   rw [hd] at HD
   have HR2 : Hid ((if c = 39 then ((3 : Int), if Lib.indexByte t 39 < 0 then 0 else (Lib.indexByte t 39).toNat + 2) else (4, markN s marksL)) = R) := Lib.hid (by rw [← HR.out, hl, hd]; rfl)
   have h39 : c = 39 ↔ (c.toNat : Int) = 39 := ⟨fun h => by rw [h]; rfl, fun h => UInt8.toNat_inj.1 (by have : (39 : UInt8).toNat = 39 := rfl; omega)⟩
   by_cases e39 : c = 39
   ·have t1 : ((c.toNat : Int) == 39) = true := by rw [beq_iff_eq]; exact h39.1 e39
    obtain ⟨k, hk⟩ : ∃ k, Lib.indexByte t 39 = k := ⟨_, rfl⟩
    have HX : Hid (R = (3, if k < 0 then 0 else k.toNat + 2)) := Lib.hid (by rw [← HR2.out, if_pos e39, hk])
    have hex : (bs s).extract 1 s.length = bs t := by rw [bs_extract, List.take_of_length_le (Nat.le_refl _), ← hcs]; rfl
    have HI : Hid (Calls Tryz.prog 86 #[.string (bs t), .int .u8 39] w fun e W' => e = .returned (.int .i64 k) ∧ w = W') := Lib.hid ((Tryz.strings_IndexByte (bs t) 39 w).mono fun e W' ⟨h1, h2⟩ => ⟨by rw [h1]; exact congrArg (fun x => Ending.returned (.int .i64 x)) hk, h2.symm⟩)
    have hkr : k ≤ 1000000 := by
     by_cases hn : k < 0
     ·omega
     ·have h1 := (Lib.indexByte_some (l := t) (c := 39) (o := k.toNat) (by rw [hk]; omega)).1
      have := (List.getElem?_eq_some_iff.1 h1).1
      omega
    clear hl hd HR hcs hhd htl HR2 h39 e39
    by_cases hneg : k < 0
    ·have hk0 : ¬ (0 : Int) ≤ k := by omega
     go_enter Tryz.func72, Tryz.ntmps72
     go_wp2_with fail
     refine HL.out.mono ?_
     rintro e W2 ⟨rfl, rfl⟩
     go_wp2_with fail
     refine HD.out.mono ?_
     rintro e W2 ⟨rfl, rfl⟩
     go_wp2_with fail
     refine HI.out.mono ?_
     rintro e W2 ⟨rfl, rfl⟩
     go_wp2
     go_ret2
     exact ⟨by rw [HX.out, if_pos hneg]; rfl, rfl⟩
    ·have hk0 : (0 : Int) ≤ k := by omega
     go_enter Tryz.func72, Tryz.ntmps72
     go_wp2_with fail
     refine HL.out.mono ?_
     rintro e W2 ⟨rfl, rfl⟩
     go_wp2_with fail
     refine HD.out.mono ?_
     rintro e W2 ⟨rfl, rfl⟩
     go_wp2_with fail
     refine HI.out.mono ?_
     rintro e W2 ⟨rfl, rfl⟩
     go_wp2
     go_ret2
     exact ⟨by rw [HX.out, if_neg (by omega : ¬ k < 0)]; exact congrArg (fun x => Ending.returned (.tuple #[.int .i64 3, .int .i64 x])) (by show k + 2 = ((k.toNat + 2 : Nat) : Int); omega), rfl⟩
   ·have t1 : ((c.toNat : Int) == 39) = false := by rw [beq_eq_false_iff_ne]; exact fun h => e39 (h39.2 h)
    have HX : Hid (R = (4, markN s marksL)) := Lib.hid (by rw [← HR2.out, if_neg e39])
    have HP : Hid (∀ m : Bs, Calls Tryz.prog 66 #[.string (bs s), .string (bs m)] w fun e W' => e = .returned (.bool (Lib.hasPrefix s m)) ∧ w = W') := Lib.hid fun m => (Tryz.strings_HasPrefix (bs s) (bs m) w).mono fun e W' ⟨h1, h2⟩ => ⟨h1, h2.symm⟩
    have m0 : w.cell? ⟨2, 0, none⟩ = some (.string (bs [60, 62])) := hE.marks 0 (by decide)
    have m1 : w.cell? ⟨2, 1, none⟩ = some (.string (bs [60, 61])) := hE.marks 1 (by decide)
    have m2 : w.cell? ⟨2, 2, none⟩ = some (.string (bs [62, 61])) := hE.marks 2 (by decide)
    have m3 : w.cell? ⟨2, 3, none⟩ = some (.string (bs [60])) := hE.marks 3 (by decide)
    have m4 : w.cell? ⟨2, 4, none⟩ = some (.string (bs [62])) := hE.marks 4 (by decide)
    have m5 : w.cell? ⟨2, 5, none⟩ = some (.string (bs [61])) := hE.marks 5 (by decide)
    have m6 : w.cell? ⟨2, 6, none⟩ = some (.string (bs [43])) := hE.marks 6 (by decide)
    have m7 : w.cell? ⟨2, 7, none⟩ = some (.string (bs [45])) := hE.marks 7 (by decide)
    have m8 : w.cell? ⟨2, 8, none⟩ = some (.string (bs [42])) := hE.marks 8 (by decide)
    have m9 : w.cell? ⟨2, 9, none⟩ = some (.string (bs [44])) := hE.marks 9 (by decide)
    have m10 : w.cell? ⟨2, 10, none⟩ = some (.string (bs [59])) := hE.marks 10 (by decide)
    have m11 : w.cell? ⟨2, 11, none⟩ = some (.string (bs [58])) := hE.marks 11 (by decide)
    have m12 : w.cell? ⟨2, 12, none⟩ = some (.string (bs [46])) := hE.marks 12 (by decide)
    have lm := World.block_lt_of_cell? _ _ m0
    clear hl hd HR hcs hhd htl HR2 h39 e39 hE
    go_enter Tryz.func72, Tryz.ntmps72
    go_wp2_with fail
    refine HL.out.mono ?_
    rintro e W2 ⟨rfl, rfl⟩
    go_wp2_with fail
    refine HD.out.mono ?_
    rintro e W2 ⟨rfl, rfl⟩
    go_wp2
    go_loop [31] (fun i => ∃ n : Nat, n ≤ 13 ∧ i = .int .i64 n ∧ Hid (markN s marksL = markN s (marksL.drop n))) (fun i => 13 - (intOf i).toNat)
    case atStart => exact ⟨0, Nat.zero_le _, rfl, Lib.hid rfl⟩
    case round =>
     clear m0 m1 m2 m3 m4 m5 m6 m7 m8 m9 m10 m11 m12 lm
     obtain ⟨n, hn, rfl, hno⟩ := hrel
     obtain h13 | h13 : n = 13 ∨ n < 13 := by omega
     ·subst h13
      go_wp2
      go_ret2
      exact ⟨by rw [HX.out, hno.out]; rfl, rfl⟩
     have hst : ∀ j (h : j < marksL.length), markN s (marksL.drop j) = if Lib.hasPrefix s marksL[j] then marksL[j].length else markN s (marksL.drop (j + 1)) := fun j h => by
      rw [List.drop_eq_getElem_cons h]; rfl
     obtain rfl | rfl | rfl | rfl | rfl | rfl | rfl | rfl | rfl | rfl | rfl | rfl | rfl : n = 0 ∨ n = 1 ∨ n = 2 ∨ n = 3 ∨ n = 4 ∨ n = 5 ∨ n = 6 ∨ n = 7 ∨ n = 8 ∨ n = 9 ∨ n = 10 ∨ n = 11 ∨ n = 12 := by omega
     ·have HH := Lib.hid (HP.out [60, 62])
      have ix : ∀ w, (Instr.index 168 (.agg #[.string (bs [60, 62]), .string (bs [60, 61]), .string (bs [62, 61]), .string (bs [60]), .string (bs [62]), .string (bs [61]), .string (bs [43]), .string (bs [45]), .string (bs [42]), .string (bs [44]), .string (bs [59]), .string (bs [58]), .string (bs [46])]) (.int .i64 0)).run Tryz.prog w = .ok (.string (bs [60, 62])) w := fun _ => by kernel_rfl
      have hs1 := hst 0 (by decide)
      rw [← hno.out] at hs1
      have HS := Lib.hid hs1
      clear hst hs1 hno
      cases hp : Lib.hasPrefix s [60, 62] with
      | true =>
       rw [hp] at HH
       have HQ : Hid (R = (4, 2)) := Lib.hid (by rw [HX.out, HS.out]; exact congrArg (Prod.mk 4) (if_pos hp))
       clear hp
       go_wp2_with fail
       refine HH.out.mono ?_
       rintro e W2 ⟨rfl, rfl⟩
       go_wp2
       go_ret2
       exact ⟨by rw [HQ.out]; rfl, rfl⟩
      | false =>
       rw [hp] at HH
       have HQ : Hid (markN s marksL = markN s (marksL.drop 1)) := Lib.hid (HS.out.trans (if_neg (by rw [show marksL[0] = [60, 62] from rfl, hp]; decide)))
       clear hp
       go_wp2_with fail
       refine HH.out.mono ?_
       rintro e W2 ⟨rfl, rfl⟩
       go_wp2
       go_round
       case rel => exact ⟨1, by omega, by go_num, HQ⟩
       case measure => simp [intOf]
     ·have HH := Lib.hid (HP.out [60, 61])
      have ix : ∀ w, (Instr.index 168 (.agg #[.string (bs [60, 62]), .string (bs [60, 61]), .string (bs [62, 61]), .string (bs [60]), .string (bs [62]), .string (bs [61]), .string (bs [43]), .string (bs [45]), .string (bs [42]), .string (bs [44]), .string (bs [59]), .string (bs [58]), .string (bs [46])]) (.int .i64 1)).run Tryz.prog w = .ok (.string (bs [60, 61])) w := fun _ => by kernel_rfl
      have hs1 := hst 1 (by decide)
      rw [← hno.out] at hs1
      have HS := Lib.hid hs1
      clear hst hs1 hno
      cases hp : Lib.hasPrefix s [60, 61] with
      | true =>
       rw [hp] at HH
       have HQ : Hid (R = (4, 2)) := Lib.hid (by rw [HX.out, HS.out]; exact congrArg (Prod.mk 4) (if_pos hp))
       clear hp
       go_wp2_with fail
       refine HH.out.mono ?_
       rintro e W2 ⟨rfl, rfl⟩
       go_wp2
       go_ret2
       exact ⟨by rw [HQ.out]; rfl, rfl⟩
      | false =>
       rw [hp] at HH
       have HQ : Hid (markN s marksL = markN s (marksL.drop 2)) := Lib.hid (HS.out.trans (if_neg (by rw [show marksL[1] = [60, 61] from rfl, hp]; decide)))
       clear hp
       go_wp2_with fail
       refine HH.out.mono ?_
       rintro e W2 ⟨rfl, rfl⟩
       go_wp2
       go_round
       case rel => exact ⟨2, by omega, by go_num, HQ⟩
       case measure => simp [intOf]
     ·have HH := Lib.hid (HP.out [62, 61])
      have ix : ∀ w, (Instr.index 168 (.agg #[.string (bs [60, 62]), .string (bs [60, 61]), .string (bs [62, 61]), .string (bs [60]), .string (bs [62]), .string (bs [61]), .string (bs [43]), .string (bs [45]), .string (bs [42]), .string (bs [44]), .string (bs [59]), .string (bs [58]), .string (bs [46])]) (.int .i64 2)).run Tryz.prog w = .ok (.string (bs [62, 61])) w := fun _ => by kernel_rfl
      have hs1 := hst 2 (by decide)
      rw [← hno.out] at hs1
      have HS := Lib.hid hs1
      clear hst hs1 hno
      cases hp : Lib.hasPrefix s [62, 61] with
      | true =>
       rw [hp] at HH
       have HQ : Hid (R = (4, 2)) := Lib.hid (by rw [HX.out, HS.out]; exact congrArg (Prod.mk 4) (if_pos hp))
       clear hp
       go_wp2_with fail
       refine HH.out.mono ?_
       rintro e W2 ⟨rfl, rfl⟩
       go_wp2
       go_ret2
       exact ⟨by rw [HQ.out]; rfl, rfl⟩
      | false =>
       rw [hp] at HH
       have HQ : Hid (markN s marksL = markN s (marksL.drop 3)) := Lib.hid (HS.out.trans (if_neg (by rw [show marksL[2] = [62, 61] from rfl, hp]; decide)))
       clear hp
       go_wp2_with fail
       refine HH.out.mono ?_
       rintro e W2 ⟨rfl, rfl⟩
       go_wp2
       go_round
       case rel => exact ⟨3, by omega, by go_num, HQ⟩
       case measure => simp [intOf]
     ·have HH := Lib.hid (HP.out [60])
      have ix : ∀ w, (Instr.index 168 (.agg #[.string (bs [60, 62]), .string (bs [60, 61]), .string (bs [62, 61]), .string (bs [60]), .string (bs [62]), .string (bs [61]), .string (bs [43]), .string (bs [45]), .string (bs [42]), .string (bs [44]), .string (bs [59]), .string (bs [58]), .string (bs [46])]) (.int .i64 3)).run Tryz.prog w = .ok (.string (bs [60])) w := fun _ => by kernel_rfl
      have hs1 := hst 3 (by decide)
      rw [← hno.out] at hs1
      have HS := Lib.hid hs1
      clear hst hs1 hno
      cases hp : Lib.hasPrefix s [60] with
      | true =>
       rw [hp] at HH
       have HQ : Hid (R = (4, 1)) := Lib.hid (by rw [HX.out, HS.out]; exact congrArg (Prod.mk 4) (if_pos hp))
       clear hp
       go_wp2_with fail
       refine HH.out.mono ?_
       rintro e W2 ⟨rfl, rfl⟩
       go_wp2
       go_ret2
       exact ⟨by rw [HQ.out]; rfl, rfl⟩
      | false =>
       rw [hp] at HH
       have HQ : Hid (markN s marksL = markN s (marksL.drop 4)) := Lib.hid (HS.out.trans (if_neg (by rw [show marksL[3] = [60] from rfl, hp]; decide)))
       clear hp
       go_wp2_with fail
       refine HH.out.mono ?_
       rintro e W2 ⟨rfl, rfl⟩
       go_wp2
       go_round
       case rel => exact ⟨4, by omega, by go_num, HQ⟩
       case measure => simp [intOf]
     ·have HH := Lib.hid (HP.out [62])
      have ix : ∀ w, (Instr.index 168 (.agg #[.string (bs [60, 62]), .string (bs [60, 61]), .string (bs [62, 61]), .string (bs [60]), .string (bs [62]), .string (bs [61]), .string (bs [43]), .string (bs [45]), .string (bs [42]), .string (bs [44]), .string (bs [59]), .string (bs [58]), .string (bs [46])]) (.int .i64 4)).run Tryz.prog w = .ok (.string (bs [62])) w := fun _ => by kernel_rfl
      have hs1 := hst 4 (by decide)
      rw [← hno.out] at hs1
      have HS := Lib.hid hs1
      clear hst hs1 hno
      cases hp : Lib.hasPrefix s [62] with
      | true =>
       rw [hp] at HH
       have HQ : Hid (R = (4, 1)) := Lib.hid (by rw [HX.out, HS.out]; exact congrArg (Prod.mk 4) (if_pos hp))
       clear hp
       go_wp2_with fail
       refine HH.out.mono ?_
       rintro e W2 ⟨rfl, rfl⟩
       go_wp2
       go_ret2
       exact ⟨by rw [HQ.out]; rfl, rfl⟩
      | false =>
       rw [hp] at HH
       have HQ : Hid (markN s marksL = markN s (marksL.drop 5)) := Lib.hid (HS.out.trans (if_neg (by rw [show marksL[4] = [62] from rfl, hp]; decide)))
       clear hp
       go_wp2_with fail
       refine HH.out.mono ?_
       rintro e W2 ⟨rfl, rfl⟩
       go_wp2
       go_round
       case rel => exact ⟨5, by omega, by go_num, HQ⟩
       case measure => simp [intOf]
     ·have HH := Lib.hid (HP.out [61])
      have ix : ∀ w, (Instr.index 168 (.agg #[.string (bs [60, 62]), .string (bs [60, 61]), .string (bs [62, 61]), .string (bs [60]), .string (bs [62]), .string (bs [61]), .string (bs [43]), .string (bs [45]), .string (bs [42]), .string (bs [44]), .string (bs [59]), .string (bs [58]), .string (bs [46])]) (.int .i64 5)).run Tryz.prog w = .ok (.string (bs [61])) w := fun _ => by kernel_rfl
      have hs1 := hst 5 (by decide)
      rw [← hno.out] at hs1
      have HS := Lib.hid hs1
      clear hst hs1 hno
      cases hp : Lib.hasPrefix s [61] with
      | true =>
       rw [hp] at HH
       have HQ : Hid (R = (4, 1)) := Lib.hid (by rw [HX.out, HS.out]; exact congrArg (Prod.mk 4) (if_pos hp))
       clear hp
       go_wp2_with fail
       refine HH.out.mono ?_
       rintro e W2 ⟨rfl, rfl⟩
       go_wp2
       go_ret2
       exact ⟨by rw [HQ.out]; rfl, rfl⟩
      | false =>
       rw [hp] at HH
       have HQ : Hid (markN s marksL = markN s (marksL.drop 6)) := Lib.hid (HS.out.trans (if_neg (by rw [show marksL[5] = [61] from rfl, hp]; decide)))
       clear hp
       go_wp2_with fail
       refine HH.out.mono ?_
       rintro e W2 ⟨rfl, rfl⟩
       go_wp2
       go_round
       case rel => exact ⟨6, by omega, by go_num, HQ⟩
       case measure => simp [intOf]
     ·have HH := Lib.hid (HP.out [43])
      have ix : ∀ w, (Instr.index 168 (.agg #[.string (bs [60, 62]), .string (bs [60, 61]), .string (bs [62, 61]), .string (bs [60]), .string (bs [62]), .string (bs [61]), .string (bs [43]), .string (bs [45]), .string (bs [42]), .string (bs [44]), .string (bs [59]), .string (bs [58]), .string (bs [46])]) (.int .i64 6)).run Tryz.prog w = .ok (.string (bs [43])) w := fun _ => by kernel_rfl
      have hs1 := hst 6 (by decide)
      rw [← hno.out] at hs1
      have HS := Lib.hid hs1
      clear hst hs1 hno
      cases hp : Lib.hasPrefix s [43] with
      | true =>
       rw [hp] at HH
       have HQ : Hid (R = (4, 1)) := Lib.hid (by rw [HX.out, HS.out]; exact congrArg (Prod.mk 4) (if_pos hp))
       clear hp
       go_wp2_with fail
       refine HH.out.mono ?_
       rintro e W2 ⟨rfl, rfl⟩
       go_wp2
       go_ret2
       exact ⟨by rw [HQ.out]; rfl, rfl⟩
      | false =>
       rw [hp] at HH
       have HQ : Hid (markN s marksL = markN s (marksL.drop 7)) := Lib.hid (HS.out.trans (if_neg (by rw [show marksL[6] = [43] from rfl, hp]; decide)))
       clear hp
       go_wp2_with fail
       refine HH.out.mono ?_
       rintro e W2 ⟨rfl, rfl⟩
       go_wp2
       go_round
       case rel => exact ⟨7, by omega, by go_num, HQ⟩
       case measure => simp [intOf]
     ·have HH := Lib.hid (HP.out [45])
      have ix : ∀ w, (Instr.index 168 (.agg #[.string (bs [60, 62]), .string (bs [60, 61]), .string (bs [62, 61]), .string (bs [60]), .string (bs [62]), .string (bs [61]), .string (bs [43]), .string (bs [45]), .string (bs [42]), .string (bs [44]), .string (bs [59]), .string (bs [58]), .string (bs [46])]) (.int .i64 7)).run Tryz.prog w = .ok (.string (bs [45])) w := fun _ => by kernel_rfl
      have hs1 := hst 7 (by decide)
      rw [← hno.out] at hs1
      have HS := Lib.hid hs1
      clear hst hs1 hno
      cases hp : Lib.hasPrefix s [45] with
      | true =>
       rw [hp] at HH
       have HQ : Hid (R = (4, 1)) := Lib.hid (by rw [HX.out, HS.out]; exact congrArg (Prod.mk 4) (if_pos hp))
       clear hp
       go_wp2_with fail
       refine HH.out.mono ?_
       rintro e W2 ⟨rfl, rfl⟩
       go_wp2
       go_ret2
       exact ⟨by rw [HQ.out]; rfl, rfl⟩
      | false =>
       rw [hp] at HH
       have HQ : Hid (markN s marksL = markN s (marksL.drop 8)) := Lib.hid (HS.out.trans (if_neg (by rw [show marksL[7] = [45] from rfl, hp]; decide)))
       clear hp
       go_wp2_with fail
       refine HH.out.mono ?_
       rintro e W2 ⟨rfl, rfl⟩
       go_wp2
       go_round
       case rel => exact ⟨8, by omega, by go_num, HQ⟩
       case measure => simp [intOf]
     ·have HH := Lib.hid (HP.out [42])
      have ix : ∀ w, (Instr.index 168 (.agg #[.string (bs [60, 62]), .string (bs [60, 61]), .string (bs [62, 61]), .string (bs [60]), .string (bs [62]), .string (bs [61]), .string (bs [43]), .string (bs [45]), .string (bs [42]), .string (bs [44]), .string (bs [59]), .string (bs [58]), .string (bs [46])]) (.int .i64 8)).run Tryz.prog w = .ok (.string (bs [42])) w := fun _ => by kernel_rfl
      have hs1 := hst 8 (by decide)
      rw [← hno.out] at hs1
      have HS := Lib.hid hs1
      clear hst hs1 hno
      cases hp : Lib.hasPrefix s [42] with
      | true =>
       rw [hp] at HH
       have HQ : Hid (R = (4, 1)) := Lib.hid (by rw [HX.out, HS.out]; exact congrArg (Prod.mk 4) (if_pos hp))
       clear hp
       go_wp2_with fail
       refine HH.out.mono ?_
       rintro e W2 ⟨rfl, rfl⟩
       go_wp2
       go_ret2
       exact ⟨by rw [HQ.out]; rfl, rfl⟩
      | false =>
       rw [hp] at HH
       have HQ : Hid (markN s marksL = markN s (marksL.drop 9)) := Lib.hid (HS.out.trans (if_neg (by rw [show marksL[8] = [42] from rfl, hp]; decide)))
       clear hp
       go_wp2_with fail
       refine HH.out.mono ?_
       rintro e W2 ⟨rfl, rfl⟩
       go_wp2
       go_round
       case rel => exact ⟨9, by omega, by go_num, HQ⟩
       case measure => simp [intOf]
     ·have HH := Lib.hid (HP.out [44])
      have ix : ∀ w, (Instr.index 168 (.agg #[.string (bs [60, 62]), .string (bs [60, 61]), .string (bs [62, 61]), .string (bs [60]), .string (bs [62]), .string (bs [61]), .string (bs [43]), .string (bs [45]), .string (bs [42]), .string (bs [44]), .string (bs [59]), .string (bs [58]), .string (bs [46])]) (.int .i64 9)).run Tryz.prog w = .ok (.string (bs [44])) w := fun _ => by kernel_rfl
      have hs1 := hst 9 (by decide)
      rw [← hno.out] at hs1
      have HS := Lib.hid hs1
      clear hst hs1 hno
      cases hp : Lib.hasPrefix s [44] with
      | true =>
       rw [hp] at HH
       have HQ : Hid (R = (4, 1)) := Lib.hid (by rw [HX.out, HS.out]; exact congrArg (Prod.mk 4) (if_pos hp))
       clear hp
       go_wp2_with fail
       refine HH.out.mono ?_
       rintro e W2 ⟨rfl, rfl⟩
       go_wp2
       go_ret2
       exact ⟨by rw [HQ.out]; rfl, rfl⟩
      | false =>
       rw [hp] at HH
       have HQ : Hid (markN s marksL = markN s (marksL.drop 10)) := Lib.hid (HS.out.trans (if_neg (by rw [show marksL[9] = [44] from rfl, hp]; decide)))
       clear hp
       go_wp2_with fail
       refine HH.out.mono ?_
       rintro e W2 ⟨rfl, rfl⟩
       go_wp2
       go_round
       case rel => exact ⟨10, by omega, by go_num, HQ⟩
       case measure => simp [intOf]
     ·have HH := Lib.hid (HP.out [59])
      have ix : ∀ w, (Instr.index 168 (.agg #[.string (bs [60, 62]), .string (bs [60, 61]), .string (bs [62, 61]), .string (bs [60]), .string (bs [62]), .string (bs [61]), .string (bs [43]), .string (bs [45]), .string (bs [42]), .string (bs [44]), .string (bs [59]), .string (bs [58]), .string (bs [46])]) (.int .i64 10)).run Tryz.prog w = .ok (.string (bs [59])) w := fun _ => by kernel_rfl
      have hs1 := hst 10 (by decide)
      rw [← hno.out] at hs1
      have HS := Lib.hid hs1
      clear hst hs1 hno
      cases hp : Lib.hasPrefix s [59] with
      | true =>
       rw [hp] at HH
       have HQ : Hid (R = (4, 1)) := Lib.hid (by rw [HX.out, HS.out]; exact congrArg (Prod.mk 4) (if_pos hp))
       clear hp
       go_wp2_with fail
       refine HH.out.mono ?_
       rintro e W2 ⟨rfl, rfl⟩
       go_wp2
       go_ret2
       exact ⟨by rw [HQ.out]; rfl, rfl⟩
      | false =>
       rw [hp] at HH
       have HQ : Hid (markN s marksL = markN s (marksL.drop 11)) := Lib.hid (HS.out.trans (if_neg (by rw [show marksL[10] = [59] from rfl, hp]; decide)))
       clear hp
       go_wp2_with fail
       refine HH.out.mono ?_
       rintro e W2 ⟨rfl, rfl⟩
       go_wp2
       go_round
       case rel => exact ⟨11, by omega, by go_num, HQ⟩
       case measure => simp [intOf]
     ·have HH := Lib.hid (HP.out [58])
      have ix : ∀ w, (Instr.index 168 (.agg #[.string (bs [60, 62]), .string (bs [60, 61]), .string (bs [62, 61]), .string (bs [60]), .string (bs [62]), .string (bs [61]), .string (bs [43]), .string (bs [45]), .string (bs [42]), .string (bs [44]), .string (bs [59]), .string (bs [58]), .string (bs [46])]) (.int .i64 11)).run Tryz.prog w = .ok (.string (bs [58])) w := fun _ => by kernel_rfl
      have hs1 := hst 11 (by decide)
      rw [← hno.out] at hs1
      have HS := Lib.hid hs1
      clear hst hs1 hno
      cases hp : Lib.hasPrefix s [58] with
      | true =>
       rw [hp] at HH
       have HQ : Hid (R = (4, 1)) := Lib.hid (by rw [HX.out, HS.out]; exact congrArg (Prod.mk 4) (if_pos hp))
       clear hp
       go_wp2_with fail
       refine HH.out.mono ?_
       rintro e W2 ⟨rfl, rfl⟩
       go_wp2
       go_ret2
       exact ⟨by rw [HQ.out]; rfl, rfl⟩
      | false =>
       rw [hp] at HH
       have HQ : Hid (markN s marksL = markN s (marksL.drop 12)) := Lib.hid (HS.out.trans (if_neg (by rw [show marksL[11] = [58] from rfl, hp]; decide)))
       clear hp
       go_wp2_with fail
       refine HH.out.mono ?_
       rintro e W2 ⟨rfl, rfl⟩
       go_wp2
       go_round
       case rel => exact ⟨12, by omega, by go_num, HQ⟩
       case measure => simp [intOf]
     ·have HH := Lib.hid (HP.out [46])
      have ix : ∀ w, (Instr.index 168 (.agg #[.string (bs [60, 62]), .string (bs [60, 61]), .string (bs [62, 61]), .string (bs [60]), .string (bs [62]), .string (bs [61]), .string (bs [43]), .string (bs [45]), .string (bs [42]), .string (bs [44]), .string (bs [59]), .string (bs [58]), .string (bs [46])]) (.int .i64 12)).run Tryz.prog w = .ok (.string (bs [46])) w := fun _ => by kernel_rfl
      have hs1 := hst 12 (by decide)
      rw [← hno.out] at hs1
      have HS := Lib.hid hs1
      clear hst hs1 hno
      cases hp : Lib.hasPrefix s [46] with
      | true =>
       rw [hp] at HH
       have HQ : Hid (R = (4, 1)) := Lib.hid (by rw [HX.out, HS.out]; exact congrArg (Prod.mk 4) (if_pos hp))
       clear hp
       go_wp2_with fail
       refine HH.out.mono ?_
       rintro e W2 ⟨rfl, rfl⟩
       go_wp2
       go_ret2
       exact ⟨by rw [HQ.out]; rfl, rfl⟩
      | false =>
       rw [hp] at HH
       have HQ : Hid (markN s marksL = markN s (marksL.drop 13)) := Lib.hid (HS.out.trans (if_neg (by rw [show marksL[12] = [46] from rfl, hp]; decide)))
       clear hp
       go_wp2_with fail
       refine HH.out.mono ?_
       rintro e W2 ⟨rfl, rfl⟩
       go_wp2
       go_round
       case rel => exact ⟨13, by omega, by go_num, HQ⟩
       case measure => simp [intOf]
end Go.Proofs.YtnjjajanfedjiaaGreatDoor
