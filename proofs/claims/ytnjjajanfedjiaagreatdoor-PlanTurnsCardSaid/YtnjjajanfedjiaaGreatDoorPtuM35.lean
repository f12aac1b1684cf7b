/- The law's fact of plans. PlanMore: its walk. maps.EqualFunc at maps of columns that say the same. -/
import Derived.Test.YtnjjajanfedjiaaGreatDoorPtuM33
import Derived.Test.YtnjjajanfedjiaaGreatDoorPtuM34
set_option linter.unusedSimpArgs false
set_option linter.unusedVariables false
namespace Go.Proofs.YtnjjajanfedjiaaGreatDoor
open Go.RowKit Go.BigFrame
attribute [local go_sem] bs_size bs_extract bs_append bs_toList
def pl1 : Bs := [105, 110, 32, 112, 58, 32, 105, 100, 32, 105, 110, 116, 59, 32, 106, 111, 98, 32, 97, 32, 61, 32, 100, 105, 115, 116, 105, 110, 99, 116, 32, 98, 59, 32, 106, 111, 98, 32, 98, 32, 61, 32, 100, 105, 115, 116, 105, 110, 99, 116, 32, 112, 59, 32, 111, 117, 116, 32, 114, 32, 61, 32, 97, 59]
def pl2 : Bs := [106, 111, 98, 32, 97, 32, 61, 32, 100, 105, 115, 116, 105, 110, 99, 116, 32, 98, 59, 32, 106, 111, 98, 32, 98, 32, 61, 32, 100, 105, 115, 116, 105, 110, 99, 116, 32, 97, 59]
theorem pl1_ok : ∃ f, parseF pl1 = .ok f ∧ orderP f = .ok [1, 0] := by
 have h : (match parseF pl1 with | .ok f => (match orderP f with | .ok l => decide (l = [1, 0]) | .error _ => false) | .error _ => false) = true := by decide +kernel
 rcases hp : parseF pl1 with x | f
 ·rw [hp] at h
  cases h
 ·rw [hp] at h
  dsimp only at h
  rcases ho : orderP f with x | l
  ·rw [ho] at h
   cases h
  ·rw [ho] at h
   exact ⟨f, rfl, by rw [ho, of_decide_eq_true h]⟩
theorem pl2_ok : ∃ f p, parseF pl2 = .ok f ∧ checkP f = .error (11, p) := by
 have h : (match parseF pl2 with | .ok f => (match checkP f with | .ok _ => false | .error x => decide (x.1 = 11)) | .error _ => false) = true := by decide +kernel
 rcases hp : parseF pl2 with x | f
 ·rw [hp] at h
  cases h
 ·rw [hp] at h
  dsimp only at h
  rcases ho : checkP f with x | l
  ·rw [ho] at h
   obtain ⟨a, p⟩ := x
   have ha : a = 11 := of_decide_eq_true h
   exact ⟨f, p, rfl, by rw [ho, ha]⟩
  ·rw [ho] at h
   cases h
set_option maxRecDepth 100000 in
set_option maxHeartbeats 8000000 in
theorem planned_any (w : World) (hE : FEnv w) (hO : CEnv w) (hT : ErrTy w) :
  Calls Tryz.prog 14 #[] w fun e w' => e = .returned (.bool true) ∧ Keeps [] w w' := by
 obtain ⟨f, hp, ho⟩ := pl1_ok
 obtain ⟨g, at_, hq, hc⟩ := pl2_ok
 have hf := (parseF_o (by decide) hp).1
 have hg := (parseF_o (by decide) hq).1
 have HF := Lib.hid hf
 have HG := Lib.hid hg
 have HOR := Lib.hid ho
 have HCH := Lib.hid hc
 have HE := Lib.hid hE
 have HO := Lib.hid hO
 have HT := Lib.hid hT
 have H1 : Hid (∀ W, Keeps [] w W → Calls Tryz.prog 7 #[.string (bs pl1)] W fun e w' => FParseOut (.ok f) W.heap.size e w' ∧ Keeps [] W w') := Lib.hid (fun W z => by
  rw [← hp]
  exact parse_any pl1 (by decide) W (hE.quiet z))
 have H2 : Hid (∀ W, Keeps [] w W → Calls Tryz.prog 7 #[.string (bs pl2)] W fun e w' => FParseOut (.ok g) W.heap.size e w' ∧ Keeps [] W w') := Lib.hid (fun W z => by
  rw [← hq]
  exact parse_any pl2 (by decide) W (hE.quiet z))
 clear hp ho hq hc hf hg hE hO hT
 go_enter Tryz.func14, Tryz.ntmps14
 go_upto_region 1 with (fail)
 go_cut [1, 2] (fun a b wx => ∃ F base A0 c0 A1 c1 A2 c2, a = .pointer (some ⟨F, 0, none⟩) ∧ b = .nilIface ∧ Hid (Blk wx F 26 #[.slice A0 f.ins.length c0, .slice A1 f.jobs.length c1, .slice A2 f.outs.length c2]) ∧ Hid (FlAt wx base (.slice A0 f.ins.length c0) (.slice A1 f.jobs.length c1) (.slice A2 f.outs.length c2) f) ∧ Hid (w.heap.size ≤ F) ∧ Hid (Keeps [] w wx))
 case first =>
  go_wp2_with fail
  refine (H1.out _ (Keeps.refl _ _)).mono ?_
  rintro e w1 ⟨⟨v0, v1, v2, rfl, i0, i1, i2⟩, k1⟩
  have hfa : FlAt w1 _ v0 v1 v2 f := ⟨i0, i1, i2⟩
  obtain ⟨A0, c0, A1, c1, A2, c2, rfl, rfl, rfl⟩ := hfa.forms
  have HFA := Lib.hid hfa
  clear i0 i1 i2 hfa
  go_wp2
  go_meet
  exact ⟨_, _, _, _, _, _, _, _, rfl, rfl, Lib.hid (Blk.new _ _ _), Lib.hid (HFA.out.keep ((Keeps.refl _ _).alloc _)), Lib.hid k1.size, Lib.hid (k1.alloc _)⟩
 case rest =>
  obtain ⟨F, base, A0, c0, A1, c1, A2, c2, rfl, rfl, HB, HFA, HFW, HK⟩ := hcut
  obtain ⟨y1, rfl⟩ : ∃ z : World, z = wc := ⟨_, rfl⟩
  have f0 : y1.cell? ⟨F, 0, none⟩ = some (.slice A0 f.ins.length c0) := HB.out.cell 0
  have f1 : y1.cell? ⟨F, 1, none⟩ = some (.slice A1 f.jobs.length c1) := HB.out.cell 1
  have f2 : y1.cell? ⟨F, 2, none⟩ = some (.slice A2 f.outs.length c2) := HB.out.cell 2
  have HOC := Lib.hid (order_any f _ _ _ y1 (HFA.out.flIn HF.out))
  rw [HOR.out] at HOC
  go_wp2_with fail
  refine HOC.out.mono ?_
  rintro e y2 ⟨⟨A, c, rfl, hc, hrd⟩, hk2⟩
  have HRD := Lib.hid hrd
  have HK2 := Lib.hid hk2
  clear f0 f1 f2 hrd hk2 HOC
  go_upto_region 5 with (fail)
  go_cut [22] (fun v wx => v = .bool false ∧ Hid (Keeps [] y2 wx))
  case first =>
   go_wp2_with fail
   have hEQ := equalI_any [1, 0] [1, 0] A (some ⟨y2.heap.size, 0, none⟩) c 2 _ (HRD.out.keep ((Keeps.refl _ _).alloc (.cells #[.int .i64 1, .int .i64 0] 3))) (rd_new y2 3 [.int .i64 1, .int .i64 0] 2 1 rfl) (by decide) (by decide)
   refine hEQ.mono ?_
   rintro e w6 ⟨rfl, hk6⟩
   have HK6 := Lib.hid (((Keeps.refl [] y2).alloc _).trans hk6)
   clear hk6 hEQ
   go_wp2
   go_meet
   exact ⟨rfl, HK6⟩
  case rest =>
   obtain ⟨rfl, HK3⟩ := hcut
   obtain ⟨y3, rfl⟩ : ∃ z : World, z = wc := ⟨_, rfl⟩
   have HKW := Lib.hid (HK.out.trans (HK2.out.trans HK3.out))
   have HB3 := Lib.hid (HB.out.keep (HK2.out.trans HK3.out) (by simp))
   clear HB HFA HK HK2 HK3
   go_wp2_with fail
   refine (H2.out _ HKW.out).mono ?_
   rintro e y4 ⟨⟨v0, v1, v2, rfl, i0, i1, i2⟩, hk4⟩
   have hga : FlAt y4 _ v0 v1 v2 g := ⟨i0, i1, i2⟩
   obtain ⟨G0, d0, G1, d1, G2, d2, rfl, rfl, rfl⟩ := hga.forms
   have HGA := Lib.hid hga
   have HB4 := Lib.hid (HB3.out.keep hk4 (by simp))
   have c0 : y4.cell? ⟨F, 0, none⟩ = some (.slice A0 f.ins.length c0) := HB4.out.cell 0
   have c1' : y4.cell? ⟨F, 1, none⟩ = some (.slice A1 f.jobs.length c1) := HB4.out.cell 1
   have c2' : y4.cell? ⟨F, 2, none⟩ = some (.slice A2 f.outs.length c2) := HB4.out.cell 2
   have z0 : y4.frozen? ⟨F, 0, none⟩ = false := HB4.out.frozen 0
   have z1 : y4.frozen? ⟨F, 1, none⟩ = false := HB4.out.frozen 1
   have z2 : y4.frozen? ⟨F, 2, none⟩ = false := HB4.out.frozen 2
   have HK4 := Lib.hid (HKW.out.trans hk4)
   clear i0 i1 i2 hga hk4
   go_upto_region 8 with (fail)
   have hb5 := (((HB4.out.set 0 (.slice G0 g.ins.length d0)).set 1 (.slice G1 g.jobs.length d1)).set 2 (.slice G2 g.outs.length d2))
   have hg5 := FlAt.box3 (u0 := .slice G0 g.ins.length d0) (u1 := .slice G1 g.jobs.length d1) (u2 := .slice G2 g.outs.length d2) HGA.out HB4.out
   have hk5 := ((HK4.out.setCell (p := ⟨F, 0, none⟩) (.inr HFW.out) (.slice G0 g.ins.length d0)).setCell (p := ⟨F, 1, none⟩) (.inr HFW.out) (.slice G1 g.jobs.length d1)).setCell (p := ⟨F, 2, none⟩) (.inr HFW.out) (.slice G2 g.outs.length d2)
   obtain ⟨y5, hy5⟩ : ∃ z, ((y4.setCell ⟨F, 0, none⟩ (.slice G0 g.ins.length d0)).setCell ⟨F, 1, none⟩ (.slice G1 g.jobs.length d1)).setCell ⟨F, 2, none⟩ (.slice G2 g.outs.length d2) = z := ⟨_, rfl⟩
   rw [hy5] at hb5 hg5 hk5 ⊢
   have e0 : y5.cell? ⟨F, 0, none⟩ = some (.slice G0 g.ins.length d0) := hb5.cell 0
   have e1 : y5.cell? ⟨F, 1, none⟩ = some (.slice G1 g.jobs.length d1) := hb5.cell 1
   have e2 : y5.cell? ⟨F, 2, none⟩ = some (.slice G2 g.outs.length d2) := hb5.cell 2
   have HC := Lib.hid (check_any g _ _ _ y5 (hg5.flIn HG.out) HG.out.short (HO.out.quiet hk5) (HT.out.keep hk5 (by simp)) HG.out.colNames)
   rw [HCH.out] at HC
   have HK5 := Lib.hid hk5
   clear c0 c1' c2' z0 z1 z2 hb5 hg5 hk5 hy5
   go_wp2_with fail
   refine HC.out.mono ?_
   rintro e y6 ⟨⟨u, rfl, gi, rfl, hb⟩, hk6⟩
   have HK6 := Lib.hid (HK5.out.trans hk6)
   have HTE := Lib.hid (tell_at gi 11 at_ y6 (HT.out.keep HK6.out (by simp)) hb)
   clear hb hk6 e0 e1 e2
   go_wp2_with fail
   refine HTE.out.mono ?_
   rintro e y7 ⟨rfl, hk7⟩
   go_wp2
   go_ret
   exact ⟨rfl, HK6.out.trans hk7⟩
end Go.Proofs.YtnjjajanfedjiaaGreatDoor
namespace Go.Proofs.YtnjjajanfedjiaaGreatDoor
open Go.RowKit Go.BigFrame
attribute [local go_sem] bs_size bs_extract bs_append bs_toList KW.cell
theorem right_some {s : Bs} {f : Fl} (h : rightP s = some f) : s.length ≤ 1000 ∧ parseF s = .ok f ∧ ∃ m, checkP f = .ok m := by
 unfold rightP at h
 split at h
 ·cases h
 ·rename_i hs
  cases hp : parseF s with
  | error x => rw [hp] at h; cases h
  | ok g =>
   rw [hp] at h
   dsimp only at h
   cases hc : checkP g with
   | error x => rw [hc] at h; cases h
   | ok m =>
    rw [hc] at h
    cases h
    exact ⟨by omega, rfl, m, hc⟩
theorem FlIn.more {W : World} {v0 v1 v2 v1' : Value} {f : Fl} {name : Bs} (h : FlIn W v0 v1 v2 f) (hj : LsIn JbIn 15 W v1' (moreF f name).jobs) : FlIn W v0 v1' v2 (moreF f name) := ⟨h.i0, hj, h.i2⟩
end Go.Proofs.YtnjjajanfedjiaaGreatDoor
namespace Go.Proofs.YtnjjajanfedjiaaGreatDoor
open Go.RowKit Go.BigFrame
attribute [local go_sem] bs_size bs_extract bs_append bs_toList
theorem pt1_any (l m : List Cl) (A B : Option Addr) (c d : Nat) (w : World) (hA : Rd w [] 2 A l.length (csCells l)) (hB : Rd w [] 2 B m.length (csCells m)) (hl : l.length ≤ 4294967296) (hm : m.length ≤ 4294967296) :
  Calls Tryz.prog 23 #[.slice A l.length c, .slice B m.length d] w fun e w' => e = .returned (.bool (decide (l = m))) ∧ Keeps [] w w' := by
 have H := Lib.hid (equalC_any l m A B c d w hA hB hl hm)
 clear hA hB
 generalize decide (l = m) = R at *
 go_enter Tryz.func23, Tryz.ntmps23
 go_wp2_with fail
 refine H.out.mono ?_
 rintro e w1 ⟨rfl, k1⟩
 go_wp2
 go_ret
 exact ⟨rfl, k1⟩
set_option maxRecDepth 100000 in
set_option maxHeartbeats 4000000 in
theorem eqFunc_any (mv1 mv2 : List (Bs × Value)) (m1 m2 : Cm) (b1 b2 : Nat) (w : World) (hm1 : MapH Tryz.prog 9 w b1 mv1) (hm2 : MapH Tryz.prog 9 w b2 mv2) (hv1 : CmV w mv1 m1) (hv2 : CmV w mv2 m2) (n : Nat) (hc1 : cntH mv1 = n) (hc2 : cntH mv2 = n) (hlk : ∀ k, m2.lookup k = m1.lookup k) (hkl : ∀ k v, m1.lookup k = some v → k.length ≤ 1000) :
  Calls Tryz.prog 22 #[.map (some b1), .map (some b2), .func (.func 23) #[] #[]] w fun e w' => e = .returned (.bool true) ∧ Keeps [] w w' := by
 have q1 : ∀ (ty : TypeId), (Builtin.len_ #[52] ty #[.map (some b1)]).run Tryz.prog w = .ok (.int .i64 n) w := fun ty => by
  rw [← hc1]
  exact hm1.len Tryz.underlying52 ty
 have q2 : ∀ (ty : TypeId), (Builtin.len_ #[52] ty #[.map (some b2)]).run Tryz.prog w = .ok (.int .i64 n) w := fun ty => by
  rw [← hc2]
  exact hm2.len Tryz.underlying52 ty
 have HM1 := Lib.hid hm1
 have HM2 := Lib.hid hm2
 have HV1 := Lib.hid hv1
 have HV2 := Lib.hid hv2
 have HLK := Lib.hid hlk
 have HKL := Lib.hid hkl
 clear hm1 hm2 hv1 hv2 hlk hkl hc1 hc2
 go_enter Tryz.func22, Tryz.ntmps22
 go_wp2_with (refine wpList_range_h rfl _ rfl Tryz.underlying52 Tryz.underlying9 rfl HM1.out ?_)
 intro y6 hrg k6 hsz
 obtain ⟨r, hr⟩ : ∃ r, w.heap.size = r := ⟨_, rfl⟩
 rw [hr] at hrg ⊢
 have HRG := Lib.hid hrg
 have HK6 := Lib.hid k6
 have HRY : Hid (w.heap.size ≤ r) := Lib.hid (by omega)
 clear hrg k6 hsz hr q1 q2
 go_wp2_with fail
 go_loopw [7] (fun _ wr => ∃ L cnt, Hid (RangeH Tryz.prog 9 wr b1 r mv1 L cnt) ∧ Hid (Keeps [r] y6 wr)) (fun _ wr => wr.rangeLeft b1 r)
 case atStart => exact ⟨_, _, HRG, Lib.hid (Keeps.refl _ _)⟩
 case round =>
  obtain ⟨L, cnt, HRN, HKR⟩ := hrel
  obtain ⟨z, rfl⟩ : ∃ z : World, z = wr := ⟨_, rfl⟩
  go_wp2_with (refine wpList_next_h rfl _ rfl Tryz.underlying9 rfl HRN.out ?hDone ?hMore)
  case hDone =>
   intro _ _
   have HKZ : Hid (Keeps [] w z) := Lib.hid ((HK6.out.of_nil.trans HKR.out).weaken fun x hx hl => by rw [List.mem_singleton] at hx; have := HRY.out; omega)
   clear HRN HKR
   go_wp2
   go_ret
   exact ⟨rfl, HKZ.out⟩
  case hMore =>
   intro k v z2 cnt' hLk hlk hrg2 hlt hkz hsz hent
   have HKZ : Hid (Keeps [] w z2) := Lib.hid (((HK6.out.of_nil.trans HKR.out).trans hkz).weaken fun x hx hl => by rw [List.mem_singleton] at hx; have := HRY.out; omega)
   obtain ⟨cc, hmk, hcl⟩ : ∃ cc, m1.lookup k = some cc ∧ ClIn w v cc := by
    rcases HV1.out.look k with ⟨h, _⟩ | ⟨v', cc, h1, h2, h3⟩
    ·rw [hlk] at h; cases h
    ·rw [hlk] at h1
     cases h1
     exact ⟨cc, h2, h3⟩
   obtain ⟨v2, hv2, hcl2⟩ : ∃ v2, mv2.lookup k = some v2 ∧ ClIn w v2 cc := by
    have hmk2 : m2.lookup k = some cc := (HLK.out k).trans hmk
    rcases HV2.out.look k with ⟨_, h⟩ | ⟨v', cc', h1, h2, h3⟩
    ·rw [hmk2] at h; cases h
    ·rw [hmk2] at h2
     cases h2
     exact ⟨v', h1, h3⟩
   obtain ⟨hcn, Av, cv, rfl, hcv, hrv⟩ := hcl
   obtain ⟨_, Av2, cv2, rfl, hcv2, hrv2⟩ := hcl2
   have hkl : k.length ≤ 1000 := HKL.out k cc hmk
   have q3 : (Instr.lookup 52 (.map (some b2)) (.string (bs k)) true).run Tryz.prog z2 = .ok (.tuple #[.slice Av2 cc.length cv2, .bool true]) z2 := by
    have h := (HM2.out.keep HKZ.out (by simp)).look (P := Tryz.prog) Tryz.underlying52 Tryz.underlying9 (z := .slice none 0 0) (by kernel_rfl) k (by unfold maxLen; omega)
    rw [hv2] at h
    exact h
   have HEQ : Hid (Calls Tryz.prog 23 #[.slice Av cc.length cv, .slice Av2 cc.length cv2] z2 fun e w' => e = .returned (.bool true) ∧ Keeps [] z2 w') := Lib.hid (by
    have h := pt1_any cc cc Av Av2 cv cv2 z2 (hrv.keep HKZ.out) (hrv2.keep HKZ.out) hcn hcn
    rw [decide_eq_true rfl] at h
    exact h)
   have HRG2 := Lib.hid hrg2
   have HKN := Lib.hid (HKR.out.trans hkz)
   have hmz : z.rangeLeft b1 r = cnt := HRN.out.left_eq
   have HMZ : Hid (cnt' < z.rangeLeft b1 r) := Lib.hid (by rw [hmz]; exact hlt)
   clear hLk hlk hrg2 hlt hkz hsz hmk hv2 hrv hrv2 hcv hcv2 hmz HKR HRN
   go_wp2_with fail
   refine HEQ.out.mono ?_
   rintro e z3 ⟨rfl, k3⟩
   have HRG3 := Lib.hid (HRG2.out.kept k3 (by simp) (by simp))
   have HKN3 := Lib.hid (HKN.out.trans k3.of_nil)
   have hlt3 : z3.rangeLeft b1 r < z.rangeLeft b1 r := by rw [HRG3.out.left_eq]; exact HMZ.out
   have HLT3 := Lib.hid hlt3
   clear k3 hlt3
   go_wp2
   go_roundw
   case rel => exact ⟨_, _, HRG3, HKN3⟩
   case measure => exact HLT3.out
end Go.Proofs.YtnjjajanfedjiaaGreatDoor
