/- The law's fact of plans. PlanMore: its walk. The frame of a law: arguments opened as lists, the handle of the type error. -/
import Derived.Test.YtnjjajanfedjiaaGreatDoorPmoM33
import Derived.Test.YtnjjajanfedjiaaGreatDoorPmoM34
import Derived.Test.YtnjjajanfedjiaaGreatDoorPmoM1
import Derived.Test.YtnjjajanfedjiaaGreatDoorRows
import Derived.WalkKit
import Derived.ProofKit
import Derived.OpenShut
import Derived.ShutString
import Derived.ChangeOld
import Derived.ChangeSlices
import Derived.SliceStrings
import Derived.Deep.Slices
import Derived.Carry
import Derived.Handed
import Derived.LaidLaws
import Derived.LaidHandle
import Derived.JoinedOf
import Derived.Stop.Joined
set_option linter.unusedSimpArgs false
set_option linter.unusedVariables false
namespace Go.Proofs.YtnjjajanfedjiaaGreatDoor
open Go.RowKit Go.BigFrame
attribute [local go_sem] bs_size bs_extract bs_append bs_toList
def pl1 : Bs := [105, 110, 32, 112, 58, 32, 105, 100, 32, 105, 110, 116, 59, 32, 106, 111, 98, 32, 97, 32, 61, 32, 100, 105, 115, 116, 105, 110, 99, 116, 32, 98, 59, 32, 106, 111, 98, 32, 98, 32, 61, 32, 100, 105, 115, 116, 105, 110, 99, 116, 32, 112, 59, 32, 111, 117, 116, 32, 114, 32, 61, 32, 97, 59]
def pl2 : Bs := [106, 111, 98, 32, 97, 32, 61, 32, 100, 105, 115, 116, 105, 110, 99, 116, 32, 98, 59, 32, 106, 111, 98, 32, 98, 32, 61, 32, 100, 105, 115, 116, 105, 110, 99, 116, 32, 97, 59]
theorem pl1_ok : ∃ f, parseF pl1 = .ok f ∧ orderP f = .ok [1, 0] := by
 have h : (match parseF pl1 with | .ok f => (match orderP f with | .ok l => decide (l = [1, 0]) | .error _ => false) | .error _ => false) = true := by decide +kernel
 rcases hp : parseF pl1 with x | f
 ·rw [hp] at h
  cases h
 ·rw [hp] at h
  dsimp only at h
  rcases ho : orderP f with x | l
  ·rw [ho] at h
   cases h
  ·rw [ho] at h
   exact ⟨f, rfl, by rw [ho, of_decide_eq_true h]⟩
theorem pl2_ok : ∃ f p, parseF pl2 = .ok f ∧ checkP f = .error (11, p) := by
 have h : (match parseF pl2 with | .ok f => (match checkP f with | .ok _ => false | .error x => decide (x.1 = 11)) | .error _ => false) = true := by decide +kernel
 rcases hp : parseF pl2 with x | f
 ·rw [hp] at h
  cases h
 ·rw [hp] at h
  dsimp only at h
  rcases ho : checkP f with x | l
  ·rw [ho] at h
   obtain ⟨a, p⟩ := x
   have ha : a = 11 := of_decide_eq_true h
   exact ⟨f, p, rfl, by rw [ho, ha]⟩
  ·rw [ho] at h
   cases h
set_option maxRecDepth 100000 in
set_option maxHeartbeats 8000000 in
theorem planned_any (w : World) (hE : FEnv w) (hO : CEnv w) (hT : ErrTy w) :
  Calls Tryz.prog 14 #[] w fun e w' => e = .returned (.bool true) ∧ Keeps [] w w' := by
 obtain ⟨f, hp, ho⟩ := pl1_ok
 obtain ⟨g, at_, hq, hc⟩ := pl2_ok
 have hf := (parseF_o (by decide) hp).1
 have hg := (parseF_o (by decide) hq).1
 have HF := Lib.hid hf
 have HG := Lib.hid hg
 have HOR := Lib.hid ho
 have HCH := Lib.hid hc
 have HE := Lib.hid hE
 have HO := Lib.hid hO
 have HT := Lib.hid hT
 have H1 : Hid (∀ W, Keeps [] w W → Calls Tryz.prog 7 #[.string (bs pl1)] W fun e w' => FParseOut (.ok f) W.heap.size e w' ∧ Keeps [] W w') := Lib.hid (fun W z => by
  rw [← hp]
  exact parse_any pl1 (by decide) W (hE.quiet z))
 have H2 : Hid (∀ W, Keeps [] w W → Calls Tryz.prog 7 #[.string (bs pl2)] W fun e w' => FParseOut (.ok g) W.heap.size e w' ∧ Keeps [] W w') := Lib.hid (fun W z => by
  rw [← hq]
  exact parse_any pl2 (by decide) W (hE.quiet z))
 clear hp ho hq hc hf hg hE hO hT
 go_enter Tryz.func14, Tryz.ntmps14
 go_upto_region 1 with (fail)
 go_cut [1, 2] (fun a b wx => ∃ F base A0 c0 A1 c1 A2 c2, a = .pointer (some ⟨F, 0, none⟩) ∧ b = .nilIface ∧ Hid (Blk wx F 26 #[.slice A0 f.ins.length c0, .slice A1 f.jobs.length c1, .slice A2 f.outs.length c2]) ∧ Hid (FlAt wx base (.slice A0 f.ins.length c0) (.slice A1 f.jobs.length c1) (.slice A2 f.outs.length c2) f) ∧ Hid (w.heap.size ≤ F) ∧ Hid (Keeps [] w wx))
 case first =>
  go_wp2_with fail
  refine (H1.out _ (Keeps.refl _ _)).mono ?_
  rintro e w1 ⟨⟨v0, v1, v2, rfl, i0, i1, i2⟩, k1⟩
  have hfa : FlAt w1 _ v0 v1 v2 f := ⟨i0, i1, i2⟩
  obtain ⟨A0, c0, A1, c1, A2, c2, rfl, rfl, rfl⟩ := hfa.forms
  have HFA := Lib.hid hfa
  clear i0 i1 i2 hfa
  go_wp2
  go_meet
  exact ⟨_, _, _, _, _, _, _, _, rfl, rfl, Lib.hid (Blk.new _ _ _), Lib.hid (HFA.out.keep ((Keeps.refl _ _).alloc _)), Lib.hid k1.size, Lib.hid (k1.alloc _)⟩
 case rest =>
  obtain ⟨F, base, A0, c0, A1, c1, A2, c2, rfl, rfl, HB, HFA, HFW, HK⟩ := hcut
  obtain ⟨y1, rfl⟩ : ∃ z : World, z = wc := ⟨_, rfl⟩
  have f0 : y1.cell? ⟨F, 0, none⟩ = some (.slice A0 f.ins.length c0) := HB.out.cell 0
  have f1 : y1.cell? ⟨F, 1, none⟩ = some (.slice A1 f.jobs.length c1) := HB.out.cell 1
  have f2 : y1.cell? ⟨F, 2, none⟩ = some (.slice A2 f.outs.length c2) := HB.out.cell 2
  have HOC := Lib.hid (order_any f _ _ _ y1 (HFA.out.flIn HF.out))
  rw [HOR.out] at HOC
  go_wp2_with fail
  refine HOC.out.mono ?_
  rintro e y2 ⟨⟨A, c, rfl, hc, hrd⟩, hk2⟩
  have HRD := Lib.hid hrd
  have HK2 := Lib.hid hk2
  clear f0 f1 f2 hrd hk2 HOC
  go_upto_region 5 with (fail)
  go_cut [22] (fun v wx => v = .bool false ∧ Hid (Keeps [] y2 wx))
  case first =>
   go_wp2_with fail
   have hEQ := equalI_any [1, 0] [1, 0] A (some ⟨y2.heap.size, 0, none⟩) c 2 _ (HRD.out.keep ((Keeps.refl _ _).alloc (.cells #[.int .i64 1, .int .i64 0] 3))) (rd_new y2 3 [.int .i64 1, .int .i64 0] 2 1 rfl) (by decide) (by decide)
   refine hEQ.mono ?_
   rintro e w6 ⟨rfl, hk6⟩
   have HK6 := Lib.hid (((Keeps.refl [] y2).alloc _).trans hk6)
   clear hk6 hEQ
   go_wp2
   go_meet
   exact ⟨rfl, HK6⟩
  case rest =>
   obtain ⟨rfl, HK3⟩ := hcut
   obtain ⟨y3, rfl⟩ : ∃ z : World, z = wc := ⟨_, rfl⟩
   have HKW := Lib.hid (HK.out.trans (HK2.out.trans HK3.out))
   have HB3 := Lib.hid (HB.out.keep (HK2.out.trans HK3.out) (by simp))
   clear HB HFA HK HK2 HK3
   go_wp2_with fail
   refine (H2.out _ HKW.out).mono ?_
   rintro e y4 ⟨⟨v0, v1, v2, rfl, i0, i1, i2⟩, hk4⟩
   have hga : FlAt y4 _ v0 v1 v2 g := ⟨i0, i1, i2⟩
   obtain ⟨G0, d0, G1, d1, G2, d2, rfl, rfl, rfl⟩ := hga.forms
   have HGA := Lib.hid hga
   have HB4 := Lib.hid (HB3.out.keep hk4 (by simp))
   have c0 : y4.cell? ⟨F, 0, none⟩ = some (.slice A0 f.ins.length c0) := HB4.out.cell 0
   have c1' : y4.cell? ⟨F, 1, none⟩ = some (.slice A1 f.jobs.length c1) := HB4.out.cell 1
   have c2' : y4.cell? ⟨F, 2, none⟩ = some (.slice A2 f.outs.length c2) := HB4.out.cell 2
   have z0 : y4.frozen? ⟨F, 0, none⟩ = false := HB4.out.frozen 0
   have z1 : y4.frozen? ⟨F, 1, none⟩ = false := HB4.out.frozen 1
   have z2 : y4.frozen? ⟨F, 2, none⟩ = false := HB4.out.frozen 2
   have HK4 := Lib.hid (HKW.out.trans hk4)
   clear i0 i1 i2 hga hk4
   go_upto_region 8 with (fail)
   have hb5 := (((HB4.out.set 0 (.slice G0 g.ins.length d0)).set 1 (.slice G1 g.jobs.length d1)).set 2 (.slice G2 g.outs.length d2))
   have hg5 := FlAt.box3 (u0 := .slice G0 g.ins.length d0) (u1 := .slice G1 g.jobs.length d1) (u2 := .slice G2 g.outs.length d2) HGA.out HB4.out
   have hk5 := ((HK4.out.setCell (p := ⟨F, 0, none⟩) (.inr HFW.out) (.slice G0 g.ins.length d0)).setCell (p := ⟨F, 1, none⟩) (.inr HFW.out) (.slice G1 g.jobs.length d1)).setCell (p := ⟨F, 2, none⟩) (.inr HFW.out) (.slice G2 g.outs.length d2)
   obtain ⟨y5, hy5⟩ : ∃ z, ((y4.setCell ⟨F, 0, none⟩ (.slice G0 g.ins.length d0)).setCell ⟨F, 1, none⟩ (.slice G1 g.jobs.length d1)).setCell ⟨F, 2, none⟩ (.slice G2 g.outs.length d2) = z := ⟨_, rfl⟩
   rw [hy5] at hb5 hg5 hk5 ⊢
   have e0 : y5.cell? ⟨F, 0, none⟩ = some (.slice G0 g.ins.length d0) := hb5.cell 0
   have e1 : y5.cell? ⟨F, 1, none⟩ = some (.slice G1 g.jobs.length d1) := hb5.cell 1
   have e2 : y5.cell? ⟨F, 2, none⟩ = some (.slice G2 g.outs.length d2) := hb5.cell 2
   have HC := Lib.hid (check_any g _ _ _ y5 (hg5.flIn HG.out) HG.out.short (HO.out.quiet hk5) (HT.out.keep hk5 (by simp)) HG.out.colNames)
   rw [HCH.out] at HC
   have HK5 := Lib.hid hk5
   clear c0 c1' c2' z0 z1 z2 hb5 hg5 hk5 hy5
   go_wp2_with fail
   refine HC.out.mono ?_
   rintro e y6 ⟨⟨u, rfl, gi, rfl, hb⟩, hk6⟩
   have HK6 := Lib.hid (HK5.out.trans hk6)
   have HTE := Lib.hid (tell_at gi 11 at_ y6 (HT.out.keep HK6.out (by simp)) hb)
   clear hb hk6 e0 e1 e2
   go_wp2_with fail
   refine HTE.out.mono ?_
   rintro e y7 ⟨rfl, hk7⟩
   go_wp2
   go_ret
   exact ⟨rfl, HK6.out.trans hk7⟩
end Go.Proofs.YtnjjajanfedjiaaGreatDoor
namespace Go.Proofs.YtnjjajanfedjiaaGreatDoor
open Go.RowKit Go.BigFrame
attribute [local go_sem] bs_size bs_extract bs_append bs_toList KW.cell
theorem right_some {s : Bs} {f : Fl} (h : rightP s = some f) : s.length ≤ 1000 ∧ parseF s = .ok f ∧ ∃ m, checkP f = .ok m := by
 unfold rightP at h
 split at h
 ·cases h
 ·rename_i hs
  cases hp : parseF s with
  | error x => rw [hp] at h; cases h
  | ok g =>
   rw [hp] at h
   dsimp only at h
   cases hc : checkP g with
   | error x => rw [hc] at h; cases h
   | ok m =>
    rw [hc] at h
    cases h
    exact ⟨by omega, rfl, m, hc⟩
theorem more_short {f : Fl} {name : Bs} (h : FlW f) (hi : f.ins ≠ []) (hn : name.length ≤ 40) : ShortF (moreF f name) where
 outs := Nat.le_trans h.nouts (by decide)
 all := by
  have h1 := h.short.all
  have e : (allN (moreF f name)).length = (allN f).length + 1 := by
   unfold allN moreF newJ
   simp
   omega
  have h2 := outs_flat_len f.jobs fun x hx => (h.jobs x hx).outs.2.1
  have h3 := h.nins
  have h4 := h.njobs
  rw [e]
  unfold allN
  rw [List.length_append, List.length_map]
  omega
 names := fun n hh => by
  have e : n = name ∨ n ∈ allN f := by
   unfold allN moreF newJ at hh
   unfold allN
   simp only [List.mem_append, List.mem_map, List.flatMap_cons, List.mem_cons, List.not_mem_nil, or_false] at hh ⊢
   rcases hh with hh | hh | hh
   ·exact .inr (.inl hh)
   ·exact .inl hh
   ·exact .inr (.inr hh)
  rcases e with rfl | e
  ·omega
  ·exact h.short.names n e
 ins := fun j hj n hh => by
  rcases List.mem_cons.1 hj with rfl | hj
  ·obtain rfl : n = (f.ins.headD ⟨0, [], []⟩).name := List.mem_singleton.1 hh
   cases hf : f.ins with
   | nil => exact absurd hf hi
   | cons x l => exact Nat.le_trans (h.ins x (by rw [hf]; simp)).name.len (by decide)
  ·exact h.short.ins j hj n hh
 told := h.short.told
theorem FlIn.more {W : World} {v0 v1 v2 v1' : Value} {f : Fl} {name : Bs} (h : FlIn W v0 v1 v2 f) (hj : LsIn JbIn 15 W v1' (moreF f name).jobs) : FlIn W v0 v1' v2 (moreF f name) := ⟨h.i0, hj, h.i2⟩
set_option maxRecDepth 100000 in
set_option maxHeartbeats 16000000 in
theorem pmore_t (s name : Bs) (w : World) (hE : FEnv w) (hO : CEnv w) (hT : ErrTy w) :
  Calls Tryz.prog 4 #[.string (bs s), .string (bs name)] w fun e w' => e = .returned (.bool true) ∧ Keeps [] w w' := by
 have HE := Lib.hid hE
 have HO := Lib.hid hO
 have HT := Lib.hid hT
 have HPL := Lib.hid (planned_any w hE hO hT)
 clear hE hO hT
 by_cases h40 : 40 < name.length
 ·have hi : (40 : Int) < (name.length : Int) := by omega
  go_enter Tryz.func4, Tryz.ntmps4
  go_wp2
  go_ret
  exact ⟨rfl, Keeps.refl _ _⟩
 ·have hi : ¬ (40 : Int) < (name.length : Int) := by omega
  have hn40 : name.length ≤ 40 := by omega
  have HR := Lib.hid (fun W (z : Keeps [] w W) => kright_any s W (HE.out.quiet z) (HO.out.quiet z) (HT.out.keep z (by simp)))
  obtain ⟨R, hR⟩ : ∃ R, rightP s = R := ⟨_, rfl⟩
  rw [hR] at HR
  have HRR := Lib.hid hR
  clear hR h40
  go_enter Tryz.func4, Tryz.ntmps4
  go_wp2_with fail
  refine HPL.out.mono ?_
  rintro e w1 ⟨rfl, k1⟩
  go_wp2_with fail
  refine (HR.out _ k1).mono ?_
  rintro e w2 ⟨ro, k2⟩
  have HK2 := Lib.hid (k1.trans k2)
  clear k1 k2 HPL HR
  rcases hr : R with _ | f
  ·rw [hr] at ro
   obtain ⟨A0, n0, c0, A1, n1, c1, A2, n2, c2, rfl⟩ := ro
   clear hr
   go_wp2
   go_ret
   exact ⟨rfl, HK2.out.alloc _⟩
  ·rw [hr] at ro HRR
   obtain ⟨base, A0, c0, A1, c1, A2, c2, rfl, hfa⟩ := ro
   obtain ⟨hs1, hp, m, hcm⟩ := right_some HRR.out
   have hfw := (parseF_o (by omega) hp).1
   have HW := Lib.hid hfw
   have HCM := Lib.hid hcm
   have HFI := Lib.hid (hfa.flIn hfw)
   clear hr hfa hp hfw hcm
   go_wp2_with fail
   have HM := Lib.hid (more_any f _ _ _ name hn40 _ (HFI.out.keep ((Keeps.refl _ _).alloc (.cells #[.slice A0 f.ins.length c0, .slice A1 f.jobs.length c1, .slice A2 f.outs.length c2] 26))) (Nat.le_trans HW.out.njobs (by decide)))
   refine HM.out.mono ?_
   rintro e w3 ⟨mo, k3⟩
   have HK3 := Lib.hid (HK2.out.trans (((Keeps.refl _ _).alloc (.cells #[.slice A0 f.ins.length c0, .slice A1 f.jobs.length c1, .slice A2 f.outs.length c2] 26)).trans k3))
   have HF1 := Lib.hid ((Blk.new w2 26 #[.slice A0 f.ins.length c0, .slice A1 f.jobs.length c1, .slice A2 f.outs.length c2]).keep k3 (by simp))
   have HFI3 := Lib.hid (HFI.out.keep (((Keeps.refl _ _).alloc (.cells #[.slice A0 f.ins.length c0, .slice A1 f.jobs.length c1, .slice A2 f.outs.length c2] 26)).trans k3))
   obtain ⟨F1, hF1⟩ : ∃ F, w2.heap.size = F := ⟨_, rfl⟩
   rw [hF1] at HF1 ⊢
   clear k3 HM HFI hF1
   unfold MoreOut at mo
   by_cases hok : moreOk f name = true
   ·rw [if_pos hok] at mo
    obtain ⟨A, c, rfl, hls⟩ := mo
    have HOK := Lib.hid hok
    have HLS := Lib.hid hls
    clear hok hls
    cases htk : takenB f name with
    | true =>
     clear htk
     go_wp2
     go_ret
     exact ⟨rfl, HK3.out.alloc _⟩
    | false =>
     have HNT : Hid (name ∉ allN f) := Lib.hid (fun h => by rw [taken_iff, decide_eq_true h] at htk; cases htk)
     clear htk
     go_upto_region 11 with (fail)
     have hne : f.ins ≠ [] := by
      have h := HOK.out
      unfold moreOk at h
      cases hx : f.ins with
      | nil => rw [hx] at h; cases h
      | cons a l => simp
     obtain ⟨m', l, hc', ho, ho', hlk, hnd, hlen⟩ := more_check HCM.out hne HNT.out
     have hnd0 : (m.map (·.1)).Nodup := by
      obtain ⟨_, _, _, _, h⟩ := check_ok HCM.out
      exact h
     have hkeys : ∀ n v, m.lookup n = some v → n.length ≤ 10 := fun n v h => by
      obtain ⟨_, _, _, hS, _⟩ := check_ok HCM.out
      by_cases hn : n ∈ allN f
      ·exact (HW.out.names n hn).len
      ·rw [hS.none n hn] at h; cases h
     have HKEYS := Lib.hid hkeys
     have hb2 := Blk.new w3 26 #[.slice A0 f.ins.length c0, .slice A (1 + f.jobs.length) c, .slice A2 f.outs.length c2]
     have hk4 := (Keeps.refl [] w3).alloc (.cells #[.slice A0 f.ins.length c0, .slice A (1 + f.jobs.length) c, .slice A2 f.outs.length c2] 26)
     obtain ⟨y0, hy0⟩ : ∃ z, w3.alloc (.cells #[.slice A0 f.ins.length c0, .slice A (1 + f.jobs.length) c, .slice A2 f.outs.length c2] 26) = z := ⟨_, rfl⟩
     rw [hy0] at hb2 hk4 ⊢
     obtain ⟨F2, hF2⟩ : ∃ F, w3.heap.size = F := ⟨_, rfl⟩
     rw [hF2] at hb2 ⊢
     have HKY := Lib.hid (HK3.out.trans hk4)
     have HB1 := Lib.hid (HF1.out.keep hk4 (by simp))
     have HB2 := Lib.hid hb2
     have HFIf := Lib.hid (HFI3.out.keep hk4)
     have HFIg : Hid (FlIn y0 (.slice A0 f.ins.length c0) (.slice A (1 + f.jobs.length) c) (.slice A2 f.outs.length c2) (moreF f name)) := Lib.hid (HFIf.out.more (HLS.out.keep hk4 fun _ _ h => h.keep hk4))
     have HSg := Lib.hid (more_short (name := name) HW.out hne hn40)
     have hcn : ∀ x ∈ (moreF f name).ins, ∀ c ∈ x.cols, c.name.length ≤ 1000000000 := HW.out.colNames
     have HC1 : Hid (∀ W, Keeps [] y0 W → Calls Tryz.prog 17 #[.agg #[.slice A0 f.ins.length c0, .slice A1 f.jobs.length c1, .slice A2 f.outs.length c2]] W fun e w' => CheckOut (.ok m) W.heap.size e w' ∧ Keeps [] W w') := Lib.hid (fun W z => by
      rw [← HCM.out]
      exact check_any f _ _ _ W (HFIf.out.keep z) HW.out.short (HO.out.quiet (HKY.out.trans z)) (HT.out.keep (HKY.out.trans z) (by simp)) HW.out.colNames)
     have HC2 : Hid (∀ W, Keeps [] y0 W → Calls Tryz.prog 17 #[.agg #[.slice A0 f.ins.length c0, .slice A (1 + f.jobs.length) c, .slice A2 f.outs.length c2]] W fun e w' => CheckOut (.ok m') W.heap.size e w' ∧ Keeps [] W w') := Lib.hid (fun W z => by
      rw [← hc']
      exact check_any (moreF f name) _ _ _ W (HFIg.out.keep z) HSg.out (HO.out.quiet (HKY.out.trans z)) (HT.out.keep (HKY.out.trans z) (by simp)) hcn)
     have HO1 : Hid (∀ W, Keeps [] y0 W → Calls Tryz.prog 18 #[.agg #[.slice A0 f.ins.length c0, .slice A1 f.jobs.length c1, .slice A2 f.outs.length c2]] W fun e w' => OrderOut (.ok l) e w' ∧ Keeps [] W w') := Lib.hid (fun W z => by
      rw [← ho]
      exact order_any f _ _ _ W (HFIf.out.keep z))
     have HO2 : Hid (∀ W, Keeps [] y0 W → Calls Tryz.prog 18 #[.agg #[.slice A0 f.ins.length c0, .slice A (1 + f.jobs.length) c, .slice A2 f.outs.length c2]] W fun e w' => OrderOut (.ok (0 :: l.map (· + 1))) e w' ∧ Keeps [] W w') := Lib.hid (fun W z => by
      rw [← ho']
      exact order_any (moreF f name) _ _ _ W (HFIg.out.keep z))
     have HLK := Lib.hid hlk
     have HND := Lib.hid hnd
     have HND0 := Lib.hid hnd0
     have HLEN := Lib.hid hlen
     have hll0 : l.length = f.jobs.length := (orderP_ok ho).2
     have HLL := Lib.hid hll0
     have HVL : Hid (∀ k ∈ l, k < f.jobs.length) := Lib.hid (orderP_ok ho).1.lt
     have HNE := Lib.hid hne
     have a0 : y0.cell? ⟨F1, 0, none⟩ = some (.slice A0 f.ins.length c0) := HB1.out.cell 0
     have a1 : y0.cell? ⟨F1, 1, none⟩ = some (.slice A1 f.jobs.length c1) := HB1.out.cell 1
     have a2 : y0.cell? ⟨F1, 2, none⟩ = some (.slice A2 f.outs.length c2) := HB1.out.cell 2
     clear hll0 hkeys hb2 hk4 hy0 hF2 hc' ho ho' hlk hnd hlen hcn hne hnd0 HF1 HFI3 HK3
     go_wp2_with fail
     refine (HC1.out _ (Keeps.refl _ _)).mono ?_
     rintro e y1 ⟨⟨b1, mv1, rfl, hm1, hcv1, -⟩, k1⟩
     have HM1 := Lib.hid hm1
     have HV1 := Lib.hid hcv1
     have HK1 := Lib.hid k1
     clear a0 a1 a2 hm1 hcv1 k1 HC1
     have g0 : y1.cell? ⟨F2, 0, none⟩ = some (.slice A0 f.ins.length c0) := (HB2.out.keep HK1.out (by simp)).cell 0
     have g1 : y1.cell? ⟨F2, 1, none⟩ = some (.slice A (1 + f.jobs.length) c) := (HB2.out.keep HK1.out (by simp)).cell 1
     have g2 : y1.cell? ⟨F2, 2, none⟩ = some (.slice A2 f.outs.length c2) := (HB2.out.keep HK1.out (by simp)).cell 2
     go_wp2_with fail
     refine (HC2.out _ HK1.out).mono ?_
     rintro e y2 ⟨⟨b2, mv2, rfl, hm2, hcv2, -⟩, k2⟩
     have HM2 := Lib.hid hm2
     have HV2 := Lib.hid hcv2
     have HK2 := Lib.hid (HK1.out.trans k2)
     have HM1' := Lib.hid (HM1.out.keep k2 (by simp))
     have HV1' := Lib.hid (HV1.out.keep k2)
     clear g0 g1 g2 hm2 hcv2 k2 HC2 HM1 HV1
     have a0 : y2.cell? ⟨F1, 0, none⟩ = some (.slice A0 f.ins.length c0) := (HB1.out.keep HK2.out (by simp)).cell 0
     have a1 : y2.cell? ⟨F1, 1, none⟩ = some (.slice A1 f.jobs.length c1) := (HB1.out.keep HK2.out (by simp)).cell 1
     have a2 : y2.cell? ⟨F1, 2, none⟩ = some (.slice A2 f.outs.length c2) := (HB1.out.keep HK2.out (by simp)).cell 2
     go_wp2_with fail
     refine (HO1.out _ HK2.out).mono ?_
     rintro e y3 ⟨⟨L1, n1, rfl, hn1, hr1⟩, k3⟩
     have HR1 := Lib.hid hr1
     have HK3 := Lib.hid (HK2.out.trans k3)
     have HM1 := Lib.hid (HM1'.out.keep k3 (by simp))
     have HV1 := Lib.hid (HV1'.out.keep k3)
     have HM2' := Lib.hid (HM2.out.keep k3 (by simp))
     have HV2' := Lib.hid (HV2.out.keep k3)
     clear a0 a1 a2 hr1 k3 HO1 HM1' HV1' HM2 HV2
     have g0 : y3.cell? ⟨F2, 0, none⟩ = some (.slice A0 f.ins.length c0) := (HB2.out.keep HK3.out (by simp)).cell 0
     have g1 : y3.cell? ⟨F2, 1, none⟩ = some (.slice A (1 + f.jobs.length) c) := (HB2.out.keep HK3.out (by simp)).cell 1
     have g2 : y3.cell? ⟨F2, 2, none⟩ = some (.slice A2 f.outs.length c2) := (HB2.out.keep HK3.out (by simp)).cell 2
     go_wp2_with fail
     refine (HO2.out _ HK3.out).mono ?_
     rintro e y4 ⟨⟨L2, n2, rfl, hn2, hr2⟩, k4⟩
     have HR2 := Lib.hid hr2
     have HK4 := Lib.hid (HKY.out.trans (HK3.out.trans k4))
     have HRA := Lib.hid (HR1.out.keep k4)
     have HMA := Lib.hid (HM1.out.keep k4 (by simp))
     have HVA := Lib.hid (HV1.out.keep k4)
     have HMB := Lib.hid (HM2'.out.keep k4 (by simp))
     have HVB := Lib.hid (HV2'.out.keep k4)
     have HBA := Lib.hid (HB1.out.keep (HK3.out.trans k4) (by simp))
     have HFI4 := Lib.hid (HFIf.out.keep (HK3.out.trans k4))
     clear g0 g1 g2 hr2 k4 HO2 HM1 HV1 HM2' HV2' HK1 HK2 HK3 HB1 HB2 HFIf HFIg HR1 HLS
     go_upto_region 15 with (fail)
     go_cut [92] (fun v wx => v = .bool false ∧ Hid (Keeps [] y4 wx))
     case first =>
      have hl1 : cntH mv1 = m.length := by rw [cntH_nodup (by rw [HVA.out.fst]; exact HND0.out), HVA.out.len]
      have hl2 : cntH mv2 = m.length + 1 := by rw [cntH_nodup (by rw [HVB.out.fst]; exact HND.out), HVB.out.len, HLEN.out]
      have q1 : ∀ (ty : TypeId) (p : KW y4), (Builtin.len_ #[52] ty #[.map (some b1)]).run Tryz.prog p.w = .ok (.int .i64 m.length) p.w := fun ty p => by
       rw [← hl1]
       exact (HMA.out.keep p.k (by simp)).len Tryz.underlying52 ty
      have q2 : ∀ (ty : TypeId) (p : KW y4), (Builtin.len_ #[52] ty #[.map (some b2)]).run Tryz.prog p.w = .ok (.int .i64 (m.length + 1 : Nat)) p.w := fun ty p => by
       rw [← hl2]
       exact (HMB.out.keep p.k (by simp)).len Tryz.underlying52 ty
      have hml : m.length ≤ 100000 := by
       have h1 := nodup_len HND0.out (l := m.map (·.1)) (m := allN f) fun n hn => by
        obtain ⟨v, hv⟩ := Option.isSome_iff_exists.1 (lookup_isSome.2 hn)
        obtain ⟨_, _, _, hS, _⟩ := check_ok HCM.out
        by_cases hh : n ∈ allN f
        ·exact hh
        ·rw [hS.none n hh] at hv; cases hv
       have h2 := HW.out.short.all
       rw [List.length_map] at h1
       omega
      obtain ⟨x0, hx0⟩ : ∃ x, f.ins[0]'(List.length_pos_iff.2 HNE.out) = x := ⟨_, rfl⟩
      have hlp := List.length_pos_iff.2 HNE.out
      obtain ⟨hni, Ax, cx, ex, hcx, hat⟩ := HFI4.out.i0
      obtain ⟨gi, cs, e1, lgi, hcl, hin, hcell⟩ := hat 0 hlp
      injection ex with ex1 ex2 ex3
      subst ex1
      cases e1
      rw [hx0] at hin
      obtain ⟨vc, rfl, hcl2, Ac, cc, rfl, hcc, hrc⟩ := hin
      have i2 : y4.cell? ⟨gi, 2, none⟩ = some (.slice Ac x0.cols.length cc) := by have := hcell 2 _ rfl; simpa using this
      have hc0 : (f.ins.headD ⟨0, [], []⟩).cols = x0.cols := by
       rw [← hx0, List.headD_eq_head?_getD, List.head?_eq_getElem?, List.getElem?_eq_getElem hlp]
       rfl
      have hlkn : m'.lookup name = some x0.cols := by rw [HLK.out name, if_pos rfl, hc0]
      obtain ⟨vn, hvn, Bn, dn, rfl, hdn, hrn, hbn⟩ : ∃ vn, mv2.lookup name = some vn ∧ ∃ B d, vn = .slice B x0.cols.length d ∧ x0.cols.length ≤ d ∧ Rd y4 [] 2 B x0.cols.length (csCells x0.cols) ∧ x0.cols.length ≤ 4294967296 := by
       rcases HVB.out.look name with ⟨_, h⟩ | ⟨v, cc', h1, h2, h3⟩
       ·rw [h] at hlkn; cases hlkn
       ·rw [h2] at hlkn
        cases hlkn
        obtain ⟨h4, B, d, h5, h6, h7⟩ := h3
        exact ⟨v, h1, B, d, h5, h6, h7, h4⟩
      have q3 : ∀ (p : KW y4), (Instr.lookup 52 (.map (some b2)) (.string (bs name)) false).run Tryz.prog p.w = .ok (.slice Bn x0.cols.length dn) p.w := fun p => by
       have h := (HMB.out.keep p.k (by simp)).look0 (P := Tryz.prog) Tryz.underlying52 Tryz.underlying9 (z := .slice none 0 0) (by kernel_rfl) name (by unfold maxLen; omega)
       rw [hvn] at h
       exact h
      have HEQ : Hid (∀ W, Keeps [] y4 W → Calls Tryz.prog 19 #[.slice Bn x0.cols.length dn, .slice Ac x0.cols.length cc] W fun e w' => e = .returned (.bool true) ∧ Keeps [] W w') := Lib.hid (fun W z => by
       have h := equalC_any x0.cols x0.cols Bn Ac dn cc W (hrn.keep z) (hrc.keep z) hbn hbn
       rw [decide_eq_true rfl] at h
       exact h)
      have r0 : y4.cell? ⟨F1, 0, none⟩ = some (.slice (some ⟨gi, 0, none⟩) f.ins.length c0) := HBA.out.cell 0
      have lF : F1 < y4.heap.size := HBA.out.lt
      have hni0 : (0 : Int) < (f.ins.length : Int) := by omega
      clear hcell hat hx0 hrc hrn hvn hlkn hc0 hl1 hl2
      refine wp_region_keeps (by kernel_rfl) (by kernel_rfl) ?_
      repeat (go_big_quiet_step (first | with_reducible exact KW.of HEQ.out _))
      refine wpQuiet_nil ?_
      intro wx kx
      have HKX := Lib.hid kx
      go_wp2
      go_meet
      exact ⟨rfl, HKX⟩
     case rest =>
      obtain ⟨rfl, HK5⟩ := hcut
      obtain ⟨y5, rfl⟩ : ∃ z : World, z = wc := ⟨_, rfl⟩
      have HKW := Lib.hid (HK4.out.trans HK5.out)
      have HMA5 := Lib.hid (HMA.out.keep HK5.out (by simp))
      have HMB5 := Lib.hid (HMB.out.keep HK5.out (by simp))
      have HVA5 := Lib.hid (HVA.out.keep HK5.out)
      have HVB5 := Lib.hid (HVB.out.keep HK5.out)
      have HRA5 := Lib.hid (HRA.out.keep HK5.out)
      have HRB5 := Lib.hid (HR2.out.keep HK5.out)
      clear HK4 HK5 HMA HMB HVA HVB HRA HR2 HBA HFI4 HKY
      go_wp2_with (refine wpList_range_h rfl _ rfl Tryz.underlying52 Tryz.underlying9 rfl HMA5.out ?_)
      intro y6 hrg k6 hsz
      obtain ⟨r, hr⟩ : ∃ r, y5.heap.size = r := ⟨_, rfl⟩
      rw [hr] at hrg ⊢
      have HRG := Lib.hid hrg
      have HK6 := Lib.hid k6
      have HRW : Hid (w.heap.size ≤ r) := Lib.hid (by have := HKW.out.size; omega)
      have HRY : Hid (y5.heap.size ≤ r) := Lib.hid (by omega)
      have hbr : b2 ≠ r ∧ b1 ≠ r := ⟨by have := HMB5.out.lt; omega, by have := HMA5.out.lt; omega⟩
      have HBR := Lib.hid hbr
      clear hrg k6 hsz hr hbr
      go_wp2_with fail
      go_loopw [16] (fun _ wr => ∃ L cnt, Hid (RangeH Tryz.prog 9 wr b1 r mv1 L cnt) ∧ Hid (Keeps [r] y6 wr)) (fun _ wr => wr.rangeLeft b1 r)
      case atStart => exact ⟨_, _, HRG, Lib.hid (Keeps.refl _ _)⟩
      case round =>
       obtain ⟨L, cnt, HRN, HKR⟩ := hrel
       obtain ⟨z, rfl⟩ : ∃ z : World, z = wr := ⟨_, rfl⟩
       go_wp2_with (refine wpList_next_h rfl _ rfl Tryz.underlying9 rfl HRN.out ?hDone ?hMore)
       case hDone =>
        intro _ _
        have HKZ : Hid (Keeps [] y5 z) := Lib.hid ((HK6.out.of_nil.trans HKR.out).weaken fun x hx hl => by rw [List.mem_singleton] at hx; have := HRY.out; omega)
        have HRAz := Lib.hid (HRA5.out.keep HKZ.out)
        have HRBz := Lib.hid (HRB5.out.keep HKZ.out)
        have HKE := Lib.hid (HKW.out.trans HKZ.out)
        have hl16 : l.length ≤ 16 := by
         have h := HLL.out
         have := HW.out.njobs
         omega
        have hbb : ∃ g2 o2, L2 = some ⟨g2, o2, none⟩ ∧ (z.cell? ⟨g2, o2, none⟩ = some (.int .i64 0) ∧ ∀ j (h : j < l.length), z.cell? ⟨g2, o2 + (j + 1), none⟩ = some (.int .i64 ((l[j] : Nat) + 1 : Int))) := by
         obtain ⟨b, o, e, _, _, hc⟩ := HRBz.out.open' (by simp) (by decide)
         refine ⟨b, o, e, ?_, fun j h => ?_⟩
         ·have := hc 0 (.int .i64 (0 : Nat)) (by simp [natsV, intsN])
          simpa using this
         ·have := hc (j + 1) (.int .i64 ((l[j] + 1 : Nat) : Int)) (by simp [natsV, intsN, h])
          rw [this]
          simp
        obtain ⟨g2, o2, rfl, hb0, hbj⟩ := hbb
        have HBJ := Lib.hid hbj
        have haj : ∀ j (h : j < l.length), ∃ g1 o1, L1 = some ⟨g1, o1, none⟩ ∧ z.cell? ⟨g1, o1 + j, none⟩ = some (.int .i64 (l[j] : Nat)) := fun j h => by
         obtain ⟨b, o, e, _, _, hc⟩ := HRAz.out.open' (by omega) (by decide)
         exact ⟨b, o, e, hc j _ (by simp [natsV, intsN, h])⟩
        have HAJ := Lib.hid haj
        have hll : ((0 :: l.map (· + 1)).length : Int) = (l.length : Int) + 1 := by simp
        have hll2 : (0 :: l.map (· + 1)).length = l.length + 1 := by simp
        rw [hll2] at hn2
        clear HRN HKR hbj haj hll hll2
        have hlt16 : ∀ j (h : j < l.length), l[j] ≤ 16 := fun j h => by
         have h1 := HVL.out _ (List.getElem_mem h)
         have h2 := HW.out.njobs
         omega
        have HLT := Lib.hid hlt16
        have hw0 : IntKind.i64.wrap ((l.length : Int) + 1) = (l.length : Int) + 1 := by simp [IntKind.wrap, IntKind.bits, IntKind.signed]; omega
        clear hlt16
        go_wp2_with fail
        go_loopw [18] (fun i wr => ∃ j : Nat, j ≤ l.length ∧ i = .int .i64 j ∧ Hid (Keeps [] z wr)) (fun i _ => l.length - (intOf i).toNat)
        case atStart => exact ⟨0, Nat.zero_le _, rfl, Lib.hid (Keeps.refl _ _)⟩
        case round =>
         obtain ⟨j, hj, rfl, HKJ⟩ := hrel
         obtain ⟨u, rfl⟩ : ∃ u : World, u = wr := ⟨_, rfl⟩
         by_cases hjl : j < l.length
         ·have hji : (j : Int) < (l.length : Int) := by omega
          obtain ⟨g1, o1, rfl, haj⟩ := HAJ.out j hjl
          have hbj := HBJ.out j hjl
          have hxl := HLT.out j hjl
          generalize l[j] = x at *
          have e1 := HKJ.out.cell_of haj (by simp)
          have e2 := HKJ.out.cell_of hbj (by simp)
          have lg1 : g1 < u.heap.size := World.block_lt_of_cell? _ _ e1
          have lg2 : g2 < u.heap.size := World.block_lt_of_cell? _ _ e2
          have hw1 : IntKind.i64.wrap ((j : Int) + 1) = (j : Int) + 1 := by simp [IntKind.wrap, IntKind.bits, IntKind.signed]; omega
          have hw2 : IntKind.i64.wrap ((x : Int) + 1) = (x : Int) + 1 := by simp [IntKind.wrap, IntKind.bits, IntKind.signed]; omega
          clear haj hbj
          go_upto_region 27 with (fail)
          refine wp_region_keeps (by kernel_rfl) (by kernel_rfl) ?_
          repeat (go_big_quiet_step (fail))
          refine wpQuiet_nil ?_
          intro wx kx
          have HKX := Lib.hid (HKJ.out.trans kx)
          go_wp2
          go_roundw
          case rel => exact ⟨j + 1, by omega, by go_num, HKX⟩
          case measure => simp [intOf]; omega
         ·have hji : ¬ (j : Int) < (l.length : Int) := by omega
          have HKF := Lib.hid (HKE.out.trans HKJ.out)
          go_wp2
          go_ret
          exact ⟨rfl, HKF.out⟩
       case hMore =>
        intro k v z2 cnt' hLk hlk hrg2 hlt hkz hsz hent
        have HKZ : Hid (Keeps [] y5 z2) := Lib.hid (((HK6.out.of_nil.trans HKR.out).trans hkz).weaken fun x hx hl => by rw [List.mem_singleton] at hx; have := HRY.out; omega)
        obtain ⟨cc, hmk, hcl⟩ : ∃ cc, m.lookup k = some cc ∧ ClIn y5 v cc := by
         rcases HVA5.out.look k with ⟨h, _⟩ | ⟨v', cc, h1, h2, h3⟩
         ·rw [hlk] at h; cases h
         ·rw [hlk] at h1
          cases h1
          exact ⟨cc, h2, h3⟩
        have hkn : k ≠ name := fun e => by
         obtain ⟨_, _, _, hS, _⟩ := check_ok HCM.out
         rw [e, hS.none name HNT.out] at hmk
         cases hmk
        have hmk2 : m'.lookup k = some cc := by rw [HLK.out k, if_neg hkn]; exact hmk
        obtain ⟨v2, hv2, hcl2⟩ : ∃ v2, mv2.lookup k = some v2 ∧ ClIn y5 v2 cc := by
         rcases HVB5.out.look k with ⟨_, h⟩ | ⟨v', cc', h1, h2, h3⟩
         ·rw [hmk2] at h; cases h
         ·rw [hmk2] at h2
          cases h2
          exact ⟨v', h1, h3⟩
        obtain ⟨hcn, Av, cv, rfl, hcv, hrv⟩ := hcl
        obtain ⟨_, Av2, cv2, rfl, hcv2, hrv2⟩ := hcl2
        have hkl : k.length ≤ 10 := HKEYS.out k cc hmk
        have q3 : (Instr.lookup 52 (.map (some b2)) (.string (bs k)) false).run Tryz.prog z2 = .ok (.slice Av2 cc.length cv2) z2 := by
         have h := (HMB5.out.keep HKZ.out (by simp)).look0 (P := Tryz.prog) Tryz.underlying52 Tryz.underlying9 (z := .slice none 0 0) (by kernel_rfl) k (by unfold maxLen; omega)
         rw [hv2] at h
         exact h
        have HEQ : Hid (Calls Tryz.prog 19 #[.slice Av2 cc.length cv2, .slice Av cc.length cv] z2 fun e w' => e = .returned (.bool true) ∧ Keeps [] z2 w') := Lib.hid (by
         have h := equalC_any cc cc Av2 Av cv2 cv z2 (hrv2.keep HKZ.out) (hrv.keep HKZ.out) hcn hcn
         rw [decide_eq_true rfl] at h
         exact h)
        have HRG2 := Lib.hid hrg2
        have HKN := Lib.hid (HKR.out.trans hkz)
        have hmz : z.rangeLeft b1 r = cnt := HRN.out.left_eq
        have HMZ : Hid (cnt' < z.rangeLeft b1 r) := Lib.hid (by rw [hmz]; exact hlt)
        clear hLk hlk hrg2 hlt hkz hsz hmk hkn hmk2 hv2 hrv hrv2 hcv hcv2 hmz HKR HRN
        go_wp2_with fail
        refine HEQ.out.mono ?_
        rintro e z3 ⟨rfl, k3⟩
        have HRG3 := Lib.hid (HRG2.out.kept k3 (by simp) (by simp))
        have HKN3 := Lib.hid (HKN.out.trans k3.of_nil)
        have hlt3 : z3.rangeLeft b1 r < z.rangeLeft b1 r := by rw [HRG3.out.left_eq]; exact HMZ.out
        have HLT3 := Lib.hid hlt3
        clear k3 hlt3
        go_wp2
        go_roundw
        case rel => exact ⟨_, _, HRG3, HKN3⟩
        case measure => exact HLT3.out
   ·rw [if_neg hok] at mo
    obtain ⟨v1', rfl, -, A', c', rfl, -⟩ := mo
    clear hok
    go_wp2
    go_ret
    exact ⟨rfl, HK3.out.alloc _⟩
end Go.Proofs.YtnjjajanfedjiaaGreatDoor
namespace Go.Proofs.YtnjjajanfedjiaaGreatDoor
open Go.RowKit Go.ChangeShapes Go.WideShapes
theorem Fr.own : ownKnob Tryz.prog.godebug = none := by kernel_rfl
theorem Fr.laidOut : laidOutB Tryz.prog = true := by kernel_rfl
section
variable {P : Program} {H : Type} {enc : TypeId × Value → H} {W : World} {r : Reach} {base : Nat} {t e : TypeId} {v : Value} {d : DataW H} {p : List MemPlace}
theorem Keeps.trod {W' : World} (hl : laidOutB P = true) (hr : P.readableRec t = true) (hrow : t < P.types.size)
  (h : DataW.Trod enc P W 0 (fun _ => true) true t v d p) (hb : Keeps [] W W') (hlt : ∀ x ∈ p, x.block < W.heap.size) :
  DataW.Trod enc P W' 0 (fun b => decide (b < W.heap.size)) true t v d p :=
 WideElems.Trod_stays hl hr hrow h (fun x hx => hb.same (hlt x hx)) (fun x hx => by simpa using hlt x hx)
end
end Go.Proofs.YtnjjajanfedjiaaGreatDoor
