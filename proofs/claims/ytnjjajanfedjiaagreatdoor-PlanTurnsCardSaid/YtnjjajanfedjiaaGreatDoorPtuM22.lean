/- plan.Order. A map from texts to booleans, all of them true: a set of texts. plan.names. -/
import Derived.Test.YtnjjajanfedjiaaGreatDoorPtuM21
import Derived.Deep.CutBlock
import Derived.Test.YtnjjajanfedjiaaGreatDoorPtuM2
import Derived.Maps.Own
import Derived.Maps.OwnSet
import Derived.Maps.StringElems
set_option linter.unusedSimpArgs false
set_option linter.unusedVariables false
namespace Go.Proofs.YtnjjajanfedjiaaGreatDoor
open Go.RowKit Go.BigFrame
attribute [local go_sem] bs_size bs_extract bs_append bs_toList
theorem iinfP : (Tryz.prog.info? 3).map (fun i => (i.zero, i.size, i.bytes)) = some (some (.int .i64 0), 1, 8) := by kernel_rfl
def natsV (l : List Nat) : List Value := (intsN l).map (Value.int .i64)
theorem intsN_len (l : List Nat) : (intsN l).length = l.length := by simp [intsN]
theorem natsV_snoc (l : List Nat) (k : Nat) : natsV (l ++ [k]) = natsV l ++ [.int .i64 k] := by simp [natsV, intsN]
theorem any_nat (l : List Nat) (k : Nat) : ((intsN l).any fun t => (k : Int) == t) = l.contains k := by
 rw [List.contains_eq_any_beq]
 unfold intsN
 rw [List.any_map]
 congr 1
 funext t
 rw [Bool.eq_iff_iff]
 simp
 omega
def OrderOut (R : Except (Int × Int) (List Nat)) (e : Ending) (w' : World) : Prop := match R with
 | .ok l => ∃ A c, e = .returned (.tuple #[.slice A l.length c, .nilIface]) ∧ l.length ≤ c ∧ Rd w' [] 1 A l.length (natsV l)
 | .error x => ∃ gi, e = .returned (.tuple #[.slice none 0 0, .iface 122 (.pointer (some ⟨gi, 0, none⟩))]) ∧ Blk w' gi 123 #[.int .i64 x.1, .int .i64 x.2]
theorem nextI_hit {f : Fl} {out : List Nat} {k : Nat} (hk : k < f.jobs.length) (h1 : k ∉ out) (h2 : readyB f out k = true) (h3 : ∀ j, j < k → j ∉ out → readyB f out j = false) : nextI f out = some k := by
 cases h : nextI f out with
 | none => rw [nextI_none h k hk h1] at h2; cases h2
 | some k' =>
  obtain ⟨a, b, c, d⟩ := nextI_some h
  rcases Nat.lt_trichotomy k k' with hlt | rfl | hlt
  ·rw [d k hlt h1] at h2; cases h2
  ·rfl
  ·rw [h3 k' hlt b] at c; cases c
theorem nextI_miss {f : Fl} {out : List Nat} (h3 : ∀ j, j < f.jobs.length → j ∉ out → readyB f out j = false) : nextI f out = none := by
 cases h : nextI f out with
 | none => rfl
 | some k' =>
  obtain ⟨a, b, c, d⟩ := nextI_some h
  rw [h3 k' a b] at c; cases c
theorem leftI_hit {f : Fl} {out : List Nat} {k : Nat} (hk : k < f.jobs.length) (h1 : k ∉ out) (h3 : ∀ j, j < k → j ∈ out) : leftI f out = some k := by
 unfold leftI
 rw [List.find?_eq_some_iff_getElem]
 refine ⟨by simpa using h1, k, by simpa using hk, by simp, fun j hj => ?_⟩
 simpa using h3 j hj
theorem orderGo_hit {f : Fl} {n k : Nat} {out : List Nat} (h : nextI f out = some k) : orderGo f (n + 1) out = orderGo f n (out ++ [k]) := by
 rw [orderGo, h]
theorem orderGo_miss {f : Fl} {n : Nat} {out : List Nat} (h : nextI f out = none) : orderGo f (n + 1) out = .error (11, (jb f ((leftI f out).getD 0)).at_) := by
 rw [orderGo, h]
def lenV : Value → Nat
 | .slice _ n _ => n
 | _ => 0
set_option maxRecDepth 100000 in
set_option maxHeartbeats 4000000 in
theorem order_any (f : Fl) (v0 v1 v2 : Value) (w : World) (hF : FlIn w v0 v1 v2 f) :
  Calls Tryz.prog 18 #[.agg #[v0, v1, v2]] w fun e w' => OrderOut (orderP f) e w' ∧ Keeps [] w w' := by
 obtain ⟨i0, hi0, hz0, hz1, hz2⟩ := info_parts iinfP
 obtain ⟨R, hR⟩ : ∃ R, orderP f = R := ⟨_, rfl⟩
 rw [hR]
 unfold orderP at hR
 have hF1 := hF.i1
 obtain ⟨hnl, Aj, cj, rfl, hcj, hatj⟩ := hF1
 have hb0 := Blk.new w 26 #[v0, .slice Aj f.jobs.length cj, v2]
 have hk0 : Keeps [] w (w.alloc (.cells #[v0, .slice Aj f.jobs.length cj, v2] 26)) := (Keeps.refl _ _).alloc _
 obtain ⟨y0, hy0⟩ : ∃ z, w.alloc (.cells #[v0, .slice Aj f.jobs.length cj, v2] 26) = z := ⟨_, rfl⟩
 have HF := Lib.hid hF
 have HA := Lib.hid hatj
 have HR := Lib.hid hR
 rw [hy0] at hb0 hk0
 have HB := Lib.hid hb0
 have HK0 := Lib.hid hk0
 have hsz : w.heap.size ≤ y0.heap.size := hk0.size
 have HSZ := Lib.hid hsz
 clear hF hatj hb0 hk0 hR hsz
 obtain ⟨X, hX⟩ : ∃ X, w.heap.size = X := ⟨_, rfl⟩
 rw [hX] at HB HSZ
 go_enter Tryz.func18, Tryz.ntmps18
 go_upto_block 0 with (fail)
 clear hy0 hX
 have HX0 : Hid (∀ W, Keeps [] y0 W → W.cell? ⟨X, 0, none⟩ = some v0 ∧ W.cell? ⟨X, 1, none⟩ = some (.slice Aj f.jobs.length cj) ∧ W.cell? ⟨X, 2, none⟩ = some v2 ∧ X < W.heap.size) := Lib.hid fun W z => ⟨(HB.out.keep z (by simp)).cell 0, (HB.out.keep z (by simp)).cell 1, (HB.out.keep z (by simp)).cell 2, (HB.out.keep z (by simp)).lt⟩
 go_wp2_with fail
 go_loopw [4] (fun u wr => ∃ out : List Nat, out.length ≤ f.jobs.length ∧ lenV u = out.length ∧ Hid (wr.ownsRow y0.heap.size 3 1 u out.length (natsV out)) ∧ Hid (orderGo f (f.jobs.length - out.length) out = R) ∧ Hid (Keeps [] y0 wr)) (fun u _ => f.jobs.length - lenV u)
 case atStart => exact ⟨[], Nat.zero_le _, rfl, Lib.hid (World.ownsRow_nil _ _ _ _), HR, Lib.hid (Keeps.refl _ _)⟩
 case round =>
  obtain ⟨out, hol, hlu, HO, HG, HKR⟩ := hrel
  obtain ⟨y1, rfl⟩ : ∃ z : World, z = wr := ⟨_, rfl⟩
  obtain ⟨Ao, co, rfl, -, hro⟩ := own_rdm HO.out
  have HRO := Lib.hid hro
  obtain ⟨q0, q1, q2, ql⟩ := HX0.out _ HKR.out
  clear hro
  by_cases hlt : out.length < f.jobs.length
  ·have hlti : (out.length : Int) < (f.jobs.length : Int) := by omega
   have HCT : Hid (∀ (j : Nat) W, Keeps [] y1 W → Calls Tryz.prog 24 #[.slice Ao out.length co, .int .i64 j] W fun e w' => e = .returned (.bool (out.contains j)) ∧ W = w') := Lib.hid fun j W z => by
    have := contains_int (j : Int) (intsN out) Ao co W (by rw [intsN_len]; exact HRO.out.keep z) (by rw [intsN_len]; omega)
    rw [any_nat, intsN_len] at this
    exact this
   have HRD : Hid (∀ (j : Nat) W, j < f.jobs.length → Keeps [] y1 W → Calls Tryz.prog 25 #[.agg #[v0, .slice Aj f.jobs.length cj, v2], .int .i64 j, .slice Ao out.length co] W fun e w' => e = .returned (.bool (readyB f out j)) ∧ Keeps [] W w') := Lib.hid fun j W hj z => by
    have := ready_any f v0 _ v2 j hj out Ao co W (HF.out.keep (HK0.out.trans (HKR.out.trans z))) (by rw [intsN_len]; exact HRO.out.keep z) (by rw [intsN_len]; omega)
    rw [intsN_len] at this
    exact this
   go_upto_block 2 with (fail)
   go_cut [5] (fun u wx => (∃ k : Nat, k < f.jobs.length ∧ Hid (nextI f out = some k) ∧ u = .int .i64 k ∨ k = 0 ∧ Hid (nextI f out = none) ∧ u = .int .i64 (-1)) ∧ Hid (Keeps [] y1 wx))
   case first =>
    go_wp2_with fail
    go_loopw [5, 18] (fun u i wx => ∃ j : Nat, j ≤ f.jobs.length ∧ u = .int .i64 (-1) ∧ i = .int .i64 j ∧ Hid (∀ t, t < j → t ∉ out → readyB f out t = false) ∧ Hid (Keeps [] y1 wx)) (fun _ i _ => f.jobs.length - (intOf i).toNat)
    case atStart => exact ⟨0, Nat.zero_le _, rfl, rfl, Lib.hid (fun t ht => absurd ht (by omega)), Lib.hid (Keeps.refl _ _)⟩
    case round =>
     clear q0 q1 q2 ql
     obtain ⟨j, hj, rfl, rfl, HN, HKJ⟩ := hrel
     obtain ⟨wj, rfl⟩ : ∃ z : World, z = wr := ⟨_, rfl⟩
     obtain ⟨q0, q1, q2, ql⟩ := HX0.out _ (HKR.out.trans HKJ.out)
     by_cases hjn : j < f.jobs.length
     ·have hji : (j : Int) < (f.jobs.length : Int) := by omega
      by_cases hc : j ∈ out
      ·have HC : Hid (Calls Tryz.prog 24 #[.slice Ao out.length co, .int .i64 j] wj fun e w' => e = .returned (.bool true) ∧ wj = w') := Lib.hid (by
        have := HCT.out j wj HKJ.out
        rw [List.contains_iff_mem.2 hc] at this
        exact this)
       have HN' : Hid (∀ t, t < j + 1 → t ∉ out → readyB f out t = false) := Lib.hid fun t ht hn => by
        by_cases h : t < j
        ·exact HN.out t h hn
        ·obtain rfl : t = j := by omega
         exact absurd hc hn
       clear hc
       go_wp2_with ((with_reducible refine HC.out.mono ?_); rintro e w5 ⟨rfl, rfl⟩)
       go_roundw
       case rel => exact ⟨j + 1, by omega, rfl, by go_num, HN', HKJ⟩
       case measure => simp [intOf]; omega
      ·have HC : Hid (Calls Tryz.prog 24 #[.slice Ao out.length co, .int .i64 j] wj fun e w' => e = .returned (.bool false) ∧ wj = w') := Lib.hid (by
        have := HCT.out j wj HKJ.out
        rw [show out.contains j = false by simpa using hc] at this
        exact this)
       have HC2 := Lib.hid (HRD.out j wj hjn HKJ.out)
       cases hr : readyB f out j with
       | true =>
        have HN' := Lib.hid (nextI_hit hjn hc hr HN.out)
        rw [hr] at HC2
        clear hc hr
        go_wp2_with (first | ((with_reducible refine HC.out.mono ?_); rintro e w5 ⟨rfl, rfl⟩) | ((with_reducible refine HC2.out.mono ?_); rintro e w6 ⟨rfl, k6⟩))
        go_meet
        case rel => exact ⟨⟨j, .inl ⟨hjn, HN', rfl⟩⟩, Lib.hid (HKJ.out.trans k6)⟩
       | false =>
        have HN' : Hid (∀ t, t < j + 1 → t ∉ out → readyB f out t = false) := Lib.hid fun t ht hn => by
         by_cases h : t < j
         ·exact HN.out t h hn
         ·obtain rfl : t = j := by omega
          exact hr
        rw [hr] at HC2
        clear hc hr
        go_wp2_with (first | ((with_reducible refine HC.out.mono ?_); rintro e w5 ⟨rfl, rfl⟩) | ((with_reducible refine HC2.out.mono ?_); rintro e w6 ⟨rfl, k6⟩))
        have HX6 := Lib.hid (HKJ.out.trans k6)
        go_roundw
        case rel => exact ⟨j + 1, by omega, rfl, by go_num, HN', HX6⟩
        case measure => simp [intOf]; omega
     ·have HN' := Lib.hid (nextI_miss fun t ht hn => HN.out t (by omega) hn)
      have hji : ¬ (j : Int) < (f.jobs.length : Int) := by omega
      go_wp2
      go_meet
      case rel => exact ⟨⟨0, .inr ⟨rfl, HN', rfl⟩⟩, HKJ⟩
   case rest =>
    obtain ⟨⟨k, hcase⟩, HKC⟩ := hcut
    clear q0 q1 q2 ql
    obtain ⟨q0, q1, q2, ql⟩ := HX0.out _ (HKR.out.trans HKC.out)
    have HKY := Lib.hid (HKR.out.trans HKC.out)
    rcases hcase with ⟨hk, HNX, rfl⟩ | ⟨-, HNX, rfl⟩
    ·have hki : ¬ (k : Int) < 0 := by omega
     have HG' : Hid (orderGo f (f.jobs.length - (out ++ [k]).length) (out ++ [k]) = R) := Lib.hid (by
      rw [← HG.out, List.length_append, List.length_singleton]
      rw [show f.jobs.length - out.length = (f.jobs.length - (out.length + 1)) + 1 by omega, orderGo_hit HNX.out])
     have HO' : Hid (wc.ownsRow y0.heap.size 3 1 (.slice Ao out.length co) out.length (natsV out)) := Lib.hid (own_keep HO.out HKC.out (fun g hg hm => by cases hm))
     have HS := Lib.hid (show y0.heap.size ≤ (wc.alloc (.cells #[.int .i64 (k : Int)] 3)).heap.size by have := HKY.out.size; simp; omega)
     have HM := Lib.hid (show out.length + 1 ≤ maxLen ∧ (out.length + 1) * 8 ≤ 140737488355328 by simp only [maxLen]; omega)
     go_wp2_with (at_builtin; refine wpList_append_own _ rfl _ _ 55 rfl y0.heap.size 3 i0 (.int .i64 0) 1 8 Tryz.underlying55 hi0 hz0 hz1 hz2 rfl (by decide) _ _ _ rfl (HO'.out.alloc _) ⟨wc.heap.size, 0, none⟩ 1 1 [.int .i64 k] rfl rfl (World.news_of_block (heap_alloc_new _ _)) (by simp [Value.oneCell']) HM.out.1 HM.out.2 HS.out ?_)
     intro vv w2 hown' hgrow hnn
     obtain ⟨g, cap, rfl⟩ : ∃ g cap, vv = .slice (some ⟨g, 0, none⟩) (out.length + 1) cap := by
      rcases hown'.2 with ⟨_, h0⟩ | ⟨g, cap, cur, hv, _⟩
      ·omega
      ·exact ⟨g, cap, hv⟩
     have HO2 : Hid (w2.ownsRow y0.heap.size 3 1 (.slice (some ⟨g, 0, none⟩) (out.length + 1) cap) (out ++ [k]).length (natsV (out ++ [k]))) := Lib.hid (by rw [natsV_snoc, List.length_append, List.length_singleton]; exact hown')
     have HK2 := Lib.hid ((HKY.out.alloc _).grown hgrow (fun g hg => .inr (HO'.out.lt g hg).1))
     clear hown' hgrow hnn
     go_wp2
     go_roundw
     case rel => exact ⟨out ++ [k], by rw [List.length_append, List.length_singleton]; omega, by rw [List.length_append, List.length_singleton]; rfl, HO2, HG', HK2⟩
     case measure => simp [lenV]; omega
    ·have HERR : Hid (∀ j, j < f.jobs.length → j ∉ out → (∀ t, t < j → t ∈ out) → R = .error (11, (jb f j).at_)) := Lib.hid fun j hj hn ht => by
      rw [← HG.out, show f.jobs.length - out.length = (f.jobs.length - (out.length + 1)) + 1 by omega, orderGo_miss HNX.out, leftI_hit hj hn ht]
      rfl
     have HEX := Lib.hid (exists_out hlt)
     clear HNX HRD HG
     go_wp2_with fail
     go_loopw [38] (fun i wx => ∃ j : Nat, j ≤ f.jobs.length ∧ i = .int .i64 j ∧ Hid (∀ t, t < j → t ∈ out) ∧ Hid (Keeps [] wc wx)) (fun i _ => f.jobs.length - (intOf i).toNat)
     case atStart => exact ⟨0, Nat.zero_le _, rfl, Lib.hid (fun t ht => absurd ht (by omega)), Lib.hid (Keeps.refl _ _)⟩
     case round =>
      clear q0 q1 q2 ql
      obtain ⟨j, hj, rfl, HN, HKJ⟩ := hrel
      obtain ⟨wj, rfl⟩ : ∃ z : World, z = wr := ⟨_, rfl⟩
      by_cases hjn : j < f.jobs.length
      ·have hji : (j : Int) < (f.jobs.length : Int) := by omega
       obtain ⟨g, cs, rfl, hg, -, ⟨_, _, _, rfl, ⟨-, A2, c2, rfl, -, -⟩, ⟨-, A3, c3, rfl, -, -⟩, ⟨-, A4, c4, rfl, -, -⟩⟩, hc⟩ := HA.out j hjn
       have d0 := (HKY.out.trans HKJ.out).cell_of (HK0.out.cell_of (hc 0 _ rfl) (by simp)) (by simp)
       have d1 := (HKY.out.trans HKJ.out).cell_of (HK0.out.cell_of (hc 1 _ rfl) (by simp)) (by simp)
       have d2 := (HKY.out.trans HKJ.out).cell_of (HK0.out.cell_of (hc 2 _ rfl) (by simp)) (by simp)
       have d3 := (HKY.out.trans HKJ.out).cell_of (HK0.out.cell_of (hc 3 _ rfl) (by simp)) (by simp)
       have d4 := (HKY.out.trans HKJ.out).cell_of (HK0.out.cell_of (hc 4 _ rfl) (by simp)) (by simp)
       have d5 := (HKY.out.trans HKJ.out).cell_of (HK0.out.cell_of (hc 5 _ rfl) (by simp)) (by simp)
       have d6 := (HKY.out.trans HKJ.out).cell_of (HK0.out.cell_of (hc 6 _ rfl) (by simp)) (by simp)
       have d7 := (HKY.out.trans HKJ.out).cell_of (HK0.out.cell_of (hc 7 _ rfl) (by simp)) (by simp)
       have d8 := (HKY.out.trans HKJ.out).cell_of (HK0.out.cell_of (hc 8 _ rfl) (by simp)) (by simp)
       have d9 := (HKY.out.trans HKJ.out).cell_of (HK0.out.cell_of (hc 9 _ rfl) (by simp)) (by simp)
       have d10 := (HKY.out.trans HKJ.out).cell_of (HK0.out.cell_of (hc 10 _ rfl) (by simp)) (by simp)
       have d11 := (HKY.out.trans HKJ.out).cell_of (HK0.out.cell_of (hc 11 _ rfl) (by simp)) (by simp)
       have d12 := (HKY.out.trans HKJ.out).cell_of (HK0.out.cell_of (hc 12 _ rfl) (by simp)) (by simp)
       have d13 := (HKY.out.trans HKJ.out).cell_of (HK0.out.cell_of (hc 13 _ rfl) (by simp)) (by simp)
       have d14 := (HKY.out.trans HKJ.out).cell_of (HK0.out.cell_of (hc 14 _ rfl) (by simp)) (by simp)
       rw [Nat.add_zero] at d0
       have hat : f.jobs[j].at_ = (jb f j).at_ := by rw [jb_lt hjn]
       obtain ⟨x, hx⟩ : ∃ x, f.jobs[j] = x := ⟨_, rfl⟩
       rw [hx] at d0 d1 d2 d3 d4 d5 d6 d7 d8 d9 d10 d11 d12 d13 d14 hat
       clear hc hx
       by_cases hc : j ∈ out
       ·have HC : Hid (∀ W, Keeps [] wj W → Calls Tryz.prog 24 #[.slice Ao out.length co, .int .i64 j] W fun e w' => e = .returned (.bool true) ∧ W = w') := Lib.hid fun W z => (by
         have := HCT.out j W (HKC.out.trans (HKJ.out.trans z))
         rw [List.contains_iff_mem.2 hc] at this
         exact this)
        have HN' : Hid (∀ t, t < j + 1 → t ∈ out) := Lib.hid fun t ht => by
         by_cases h : t < j
         ·exact HN.out t h
         ·obtain rfl : t = j := by omega
          exact hc
        have HX6 := Lib.hid (HKJ.out.alloc (.cells (jbCells x (.slice A2 x.outs.length c2) (.slice A3 x.ins.length c3) (.slice A4 x.cols.length c4)) 45))
        clear hc hat
        go_wp2_with ((with_reducible refine (HC.out _ ((Keeps.refl _ _).alloc _)).mono ?_); rintro e w5 ⟨rfl, rfl⟩)
        go_roundw
        case rel => exact ⟨j + 1, by omega, by go_num, HN', HX6⟩
        case measure => simp [intOf]; omega
       ·have HC : Hid (∀ W, Keeps [] wj W → Calls Tryz.prog 24 #[.slice Ao out.length co, .int .i64 j] W fun e w' => e = .returned (.bool false) ∧ W = w') := Lib.hid fun W z => (by
         have := HCT.out j W (HKC.out.trans (HKJ.out.trans z))
         rw [show out.contains j = false by simpa using hc] at this
         exact this)
        have HE : Hid (R = .error (11, x.at_)) := Lib.hid (by rw [hat]; exact HERR.out j hjn hc HN.out)
        have HX6 := Lib.hid (HK0.out.trans (HKY.out.trans (HKJ.out.alloc (.cells (jbCells x (.slice A2 x.outs.length c2) (.slice A3 x.ins.length c3) (.slice A4 x.cols.length c4)) 45))))
        clear hc hat
        go_wp2_with ((with_reducible refine (HC.out _ ((Keeps.refl _ _).alloc _)).mono ?_); rintro e w5 ⟨rfl, rfl⟩)
        go_region
        all_goals
         go_wp2
         go_ret2
         exact ⟨by rw [HE.out]; exact ⟨_, rfl, (Blk.new' (wj.alloc _) _ _ _ (by simp)).drew⟩, (HX6.out.alloc _).drew⟩
      ·obtain ⟨k, hk, hn⟩ := HEX.out
       exact absurd (HN.out k (by omega)) hn
  ·have hlti : ¬ (out.length : Int) < (f.jobs.length : Int) := by omega
   have HE : Hid (R = .ok out) := Lib.hid (by rw [← HG.out, show f.jobs.length - out.length = 0 by omega]; rfl)
   obtain ⟨A9, c9, e9, h9, hr9⟩ := own_rdm HO.out
   injection e9 with e91 _ e92
   subst e91 e92
   have H9 := Lib.hid h9
   clear hr9 h9
   go_wp2
   go_ret2
   exact ⟨by rw [HE.out]; exact ⟨_, _, rfl, H9.out, HRO.out⟩, HK0.out.trans HKR.out⟩
end Go.Proofs.YtnjjajanfedjiaaGreatDoor
namespace Go.Proofs.YtnjjajanfedjiaaGreatDoor
open Go.RowKit Go.Maps
def SetOf (P : Program) (S E : TypeId) (w : World) (b n : Nat) (l : List Bs) : Prop :=
 ∃ D : DataW Unit, w.ownsMap P S (plainElem P E) b n D ∧ ∀ k : Bs, Maps.has D (.string k) = decide (k ∈ l) ∧ D.atKey (.string k) (.lit (.bool false)) = .lit (.bool (decide (k ∈ l)))
section
variable {P : Program} {T S E : TypeId} {w w' : World} {b n : Nat} {l : List Bs}
theorem SetOf.lt (h : SetOf P S E w b n l) : b < w.heap.size := by obtain ⟨D, h, _⟩ := h; exact h.lt
theorem SetOf.made (w : World) : SetOf P S E (w.alloc (.map #[] 0)) w.heap.size 0 [] :=
 ⟨_, World.ownsMap_made w _ _ _, fun _ => ⟨rfl, rfl⟩⟩
theorem SetOf.of_block (h : SetOf P S E w b n l) (hb : w'.heap[b]? = w.heap[b]?) : SetOf P S E w' b n l := by
 obtain ⟨D, ⟨es, clock, h1, h2⟩, h3⟩ := h
 exact ⟨D, ⟨es, clock, hb.trans h1, h2⟩, h3⟩
theorem SetOf.keep {L : List Nat} (h : SetOf P S E w b n l) (hk : Keeps L w w') (hb : b ∉ L) : SetOf P S E w' b n l := h.of_block (hk.block b h.lt hb)
theorem SetOf.mono (h : SetOf P S E w b n l) {n' : Nat} (hn : n ≤ n') : SetOf P S E w b n' l := by
 obtain ⟨D, h1, h2⟩ := h
 exact ⟨D, h1.mono hn, h2⟩
theorem plainElem_bool_inv {v : Value} {d : DataW Unit} {ps : List MemPlace} (hE : P.underlying E = some .bool) (h : plainElem P E v = some (d, ps)) : ∃ x, v = .bool x ∧ d = .lit (.bool x) := by
 simp only [plainElem, hE] at h
 cases v <;> simp at h
 exact ⟨_, rfl, h.1.symm⟩
theorem SetOf.look (h : SetOf P S E w b n l) (hT : P.underlying T = some (.map S E)) (hS : P.underlying S = some .string) (hE : P.underlying E = some .bool) (hz : (zeroValue E).run P w = .ok (.bool false) w) (k : Bs) (hk : k.length ≤ maxLen) :
  (Instr.lookup T (.map (some b)) (.string (bs k)) false).run P w = .ok (.bool (decide (k ∈ l))) w := by
 obtain ⟨D, h1, h2⟩ := h
 have hkey : keyOf P S (.string (bs k)) = some (.string k) := WideMaps.keyOf_string_mk hS (by rw [bs_size]; exact hk)
 obtain ⟨v, ps, hrun, hv⟩ := h1.lookup (string_keyed hS) hT hz (plainElem_bool hE false) hkey
 obtain ⟨x, rfl, hx⟩ := plainElem_bool_inv hE hv
 rw [(h2 k).2] at hx
 injection hx with hx
 injection hx with hx
 rw [hrun, hx]
theorem SetOf.store (h : SetOf P S E w b n l) (hT : P.underlying T = some (.map S E)) (hS : P.underlying S = some .string) (hE : P.underlying E = some .bool) (k : Bs) (hk : k.length ≤ maxLen) (hn : n < maxLen) :
  ∃ w', (Instr.mapUpdate T (.map (some b)) (.string (bs k)) (.bool true)).run P w = .ok () w' ∧ SetOf P S E w' b (n + 1) (k :: l) ∧ w.grownBy w' (some b) := by
 obtain ⟨D, h1, h2⟩ := h
 have hkey : keyOf P S (.string (bs k)) = some (.string k) := WideMaps.keyOf_string_mk hS (by rw [bs_size]; exact hk)
 obtain ⟨w', hrun, h3, h4⟩ := h1.update (string_keyed hS) hT hn hkey (plainElem_bool hE true)
 have hm := h1.isMap
 refine ⟨w', hrun, ⟨_, h3, fun x => ?_⟩, h4⟩
 by_cases hx : x = k
 ·subst hx
  exact ⟨by rw [has_put_same hm (by trivial)]; simp, by rw [atKey_put_same hm (by trivial)]; simp⟩
 ·have hne : (Lit.string x) ≠ Lit.string k := fun e => hx (by injection e)
  have hd : decide (x ∈ k :: l) = decide (x ∈ l) := by simp [hx]
  rw [hd]
  exact ⟨by rw [has_put_other hne]; exact (h2 x).1, by rw [atKey_put_other hne]; exact (h2 x).2⟩
end
end Go.Proofs.YtnjjajanfedjiaaGreatDoor
namespace Go.Proofs.YtnjjajanfedjiaaGreatDoor
open Go.RowKit Go.BigFrame
attribute [local go_sem] bs_size bs_extract bs_append bs_toList
abbrev SetB (w : World) (b : Nat) (s : List Bs) : Prop := SetOf Tryz.prog 9 4 w b s.length s
theorem SetOf.lookB {w : World} {b : Nat} {s : List Bs} (h : SetB w b s) (k : Bs) (hk : k.length ≤ 1000) : (Instr.lookup 159 (.map (some b)) (.string (bs k)) false).run Tryz.prog w = .ok (.bool (decide (k ∈ s))) w :=
 SetOf.look h (T := 159) Tryz.underlying159 Tryz.underlying9 Tryz.underlying4 (by kernel_rfl) k (by simp only [maxLen]; omega)
theorem SetOf.storeB {w : World} {b : Nat} {s : List Bs} (h : SetB w b s) (k : Bs) (hk : k.length ≤ 1000) (hn : s.length ≤ 1000000) : ∃ w', (Instr.mapUpdate 159 (.map (some b)) (.string (bs k)) (.bool true)).run Tryz.prog w = .ok () w' ∧ SetB w' b (k :: s) ∧ w.grownBy w' (some b) :=
 SetOf.store h (T := 159) Tryz.underlying159 Tryz.underlying9 Tryz.underlying4 k (by simp only [maxLen]; omega) (by simp only [maxLen]; omega)
def AtErr (x : Int × Int) (e : Value) (w' : World) : Prop := ∃ gi, e = .iface 122 (.pointer (some ⟨gi, 0, none⟩)) ∧ Blk w' gi 123 #[.int .i64 x.1, .int .i64 x.2]
theorem AtErr.keep {x : Int × Int} {e : Value} {w w' : World} (h : AtErr x e w) (hk : Keeps [] w w') : AtErr x e w' := by
 obtain ⟨gi, h1, h2⟩ := h
 exact ⟨gi, h1, h2.keep hk (by simp)⟩
structure NmSt (w : World) (X b Y : Nat) (v0 v1 v2 : Value) (s : List Bs) (W : World) : Prop where
 k : Keeps [] w W
 fb : Blk W X 26 #[v0, v1, v2]
 mb : Blk W Y 159 #[.map (some b)]
 mp : SetB W b s
 hb : w.heap.size ≤ b
 xb : X ≠ b
 yb : Y ≠ b
theorem NmSt.keep {w W W' : World} {X b Y : Nat} {v0 v1 v2 : Value} {s : List Bs} (h : NmSt w X b Y v0 v1 v2 s W) (hk : Keeps [] W W') : NmSt w X b Y v0 v1 v2 s W' :=
 ⟨h.k.trans hk, h.fb.keep hk (by simp), h.mb.keep hk (by simp), h.mp.keep hk (by simp), h.hb, h.xb, h.yb⟩
theorem NmSt.put {w W W' : World} {X b Y : Nat} {v0 v1 v2 : Value} {s s' : List Bs} (h : NmSt w X b Y v0 v1 v2 s W) (hk : Keeps [b] W W') (hs : SetB W' b s') : NmSt w X b Y v0 v1 v2 s' W' :=
 ⟨h.k.trans' hk (fun x hx hl => by rw [List.mem_singleton.1 hx] at hl; exact absurd h.hb (by omega)), h.fb.keep hk (by simpa using h.xb), h.mb.keep hk (by simpa using h.yb), hs, h.hb, h.xb, h.yb⟩
set_option maxHeartbeats 2000000 in
theorem made_any {w W : World} {X b Y : Nat} {v0 v1 v2 : Value} {s : List Bs} (h : NmSt w X b Y v0 v1 v2 s W) (n : Bs) (a : Int) (hn : n.length ≤ 1000) (hs : s.length ≤ 1000000) :
  Calls Tryz.prog 93 #[.string (bs n), .int .i64 a, .pointer (some ⟨Y, 0, none⟩)] W fun e W' => (n ∈ s ∧ (∃ u, e = .returned u ∧ AtErr (9, a) u W') ∧ Keeps [] W W') ∨ (n ∉ s ∧ e = .returned .nilIface ∧ NmSt w X b Y v0 v1 v2 (n :: s) W' ∧ Keeps [b] W W') := by
 have c0 : W.cell? ⟨Y, 0, none⟩ = some (.map (some b)) := h.mb.cell 0
 have hl := h.mb.lt
 have hlook := h.mp.lookB n hn
 by_cases hin : n ∈ s
 ·rw [decide_eq_true hin] at hlook
  have HI := Lib.hid hin
  clear hin h
  go_enter Tryz.func93, Tryz.ntmps93
  go_wp2
  go_ret
  exact .inl ⟨HI.out, ⟨_, rfl, _, rfl, Blk.new _ _ _⟩, (Keeps.refl _ _).alloc _⟩
 ·rw [decide_eq_false hin] at hlook
  obtain ⟨W2, hrun, hs2, hg2⟩ := h.mp.storeB n hn hs
  have HI := Lib.hid hin
  have hkb : Keeps [b] W W2 := (Keeps.refl [b] W).grown hg2 (fun g hg => .inl (by injection hg with hg; simp [hg]))
  have HS := Lib.hid (h.put hkb hs2)
  have HKB := Lib.hid hkb
  clear hin h hs2 hg2 hkb
  go_enter Tryz.func93, Tryz.ntmps93
  go_wp2
  go_ret
  exact .inr ⟨HI.out, rfl, HS.out, HKB.out⟩
theorem seen_any {w W : World} {X b Y : Nat} {v0 v1 v2 : Value} {s : List Bs} (h : NmSt w X b Y v0 v1 v2 s W) (n : Bs) (hn : n.length ≤ 1000) :
  Calls Tryz.prog 94 #[.string (bs n), .pointer (some ⟨Y, 0, none⟩)] W fun e W' => e = .returned (.bool (!decide (n ∈ s))) ∧ Keeps [] W W' := by
 have c0 : W.cell? ⟨Y, 0, none⟩ = some (.map (some b)) := h.mb.cell 0
 have hl := h.mb.lt
 have hlook := h.mp.lookB n hn
 clear h
 generalize decide (n ∈ s) = Q at *
 go_enter Tryz.func94, Tryz.ntmps94
 go_wp2
 go_ret
 exact ⟨rfl, Keeps.refl _ _⟩
def NmsOut (R : Except (Int × Int) Unit) (e : Ending) (w' : World) : Prop := match R with
 | .ok _ => e = .returned .nilIface
 | .error x => ∃ u, e = .returned u ∧ AtErr x u w'
structure ShortF (f : Fl) : Prop where
 outs : f.outs.length ≤ 1000
 all : (allN f).length ≤ 100000
 names : ∀ n ∈ allN f, n.length ≤ 1000
 ins : ∀ j ∈ f.jobs, ∀ n ∈ j.ins, n.length ≤ 1000
 told : ∀ x ∈ f.outs, x.name.length ≤ 1000 ∧ x.src.length ≤ 1000
def K3 (f : Fl) (s : List Bs) : Except (Int × Int) Unit := toldGo s f.outs []
def K2 (f : Fl) (s : List Bs) : Except (Int × Int) Unit := match readsGo s f.jobs with
 | .ok _ => K3 f s
 | .error x => .error x
def K1 (f : Fl) (s : List Bs) : Except (Int × Int) Unit := match madeGo (outsOf f.jobs) s with
 | .ok s => K2 f s
 | .error x => .error x
def onE {α β : Type} (r : Except (Int × Int) α) (k : α → Except (Int × Int) β) : Except (Int × Int) β := match r with
 | .ok a => k a
 | .error x => .error x
theorem namesC_eq (f : Fl) : namesC f = onE (madeGo (f.ins.map fun x => (x.name, x.at_)) []) (fun s => onE (madeGo (outsOf f.jobs) s) fun s => onE (readsGo s f.jobs) fun _ => toldGo s f.outs []) := by
 unfold namesC onE
 cases madeGo (f.ins.map fun x => (x.name, x.at_)) [] with
 | error x => rfl
 | ok s =>
  show (madeGo (outsOf f.jobs) s >>= _) = _
  simp only
  cases madeGo (outsOf f.jobs) s with
  | error x => rfl
  | ok s2 =>
   show (readsGo s2 f.jobs >>= _) = _
   simp only
   cases readsGo s2 f.jobs with
   | error x => rfl
   | ok u => rfl
theorem madeGo_cons (p : Bs × Int) (l : List (Bs × Int)) (s : List Bs) : madeGo (p :: l) s = if p.1 ∈ s then .error (9, p.2) else madeGo l (p.1 :: s) := rfl
theorem readsGo_cons (s : List Bs) (j : Jb) (js : List Jb) : readsGo s (j :: js) = if j.ins.any (fun n => !decide (n ∈ s)) then .error (7, j.at_) else readsGo s js := rfl
theorem toldGo_cons (s : List Bs) (x : Pb) (l : List Pb) (t : List Bs) : toldGo s (x :: l) t = if x.src ∉ s then .error (7, x.at_) else if x.name ∈ t then .error (9, x.at_) else toldGo s l (x.name :: t) := rfl
theorem outsOf_cons (j : Jb) (js : List Jb) : outsOf (j :: js) = (j.outs.map fun n => (n, j.at_)) ++ outsOf js := rfl
set_option maxRecDepth 100000 in
set_option maxHeartbeats 4000000 in
theorem planNames_any (f : Fl) (v0 v1 v2 : Value) (w : World) (hF : FlIn w v0 v1 v2 f) (hS : ShortF f) :
  Calls Tryz.prog 57 #[.agg #[v0, v1, v2]] w fun e w' => NmsOut (namesC f) e w' ∧ Keeps [] w w' := by
 have hmm := @run_makeMap Tryz.prog
 obtain ⟨R, hR⟩ : ∃ R, namesC f = R := ⟨_, rfl⟩
 rw [hR]
 rw [namesC_eq] at hR
 have hF0 := hF.i0
 have hF1 := hF.i1
 have hF2 := hF.i2
 obtain ⟨hn0, A0, c0, rfl, hc0, hat0⟩ := hF0
 obtain ⟨hn1, A1, c1, rfl, hc1, hat1⟩ := hF1
 obtain ⟨hn2, A2, c2, rfl, hc2, hat2⟩ := hF2
 have H0 := Lib.hid hat0
 have H1 := Lib.hid hat1
 have H2 := Lib.hid hat2
 have HR := Lib.hid hR
 have HS := Lib.hid hS
 have hst : NmSt w w.heap.size (w.heap.size + 1) (w.heap.size + 1 + 1) (.slice A0 f.ins.length c0) (.slice A1 f.jobs.length c1) (.slice A2 f.outs.length c2) [] (((w.alloc (.cells #[.slice A0 f.ins.length c0, .slice A1 f.jobs.length c1, .slice A2 f.outs.length c2] 26)).alloc (.map #[] 0)).alloc (.cells #[.map (some (w.heap.size + 1))] 159)) := by
  have hm := SetOf.made (P := Tryz.prog) (S := 9) (E := 4) (w.alloc (.cells #[.slice A0 f.ins.length c0, .slice A1 f.jobs.length c1, .slice A2 f.outs.length c2] 26))
  rw [fsz] at hm
  exact ⟨(((Keeps.refl _ _).alloc _).alloc _).alloc _, ((Blk.new _ _ _).alloc _).alloc _, Blk.new' ((w.alloc _).alloc _) _ _ _ (by rw [fsz, fsz]), hm.keep (L := []) ((Keeps.refl _ _).alloc _) (by simp), by omega, by omega, by omega⟩
 have HST := Lib.hid hst
 clear hF hR hS hat0 hat1 hat2 hst
 obtain ⟨X, hX⟩ : ∃ X, w.heap.size = X := ⟨_, rfl⟩
 go_enter Tryz.func57, Tryz.ntmps57
 go_upto_block 0 with (fail)
 rw [hX] at HST
 generalize (((w.alloc (.cells #[.slice A0 f.ins.length c0, .slice A1 f.jobs.length c1, .slice A2 f.outs.length c2] 26)).alloc (.map #[] 0)).alloc (.cells #[.map (some (X + 1))] 159)) = y0 at HST ⊢
 generalize X + 1 + 1 = Y at HST ⊢
 generalize X + 1 = b at HST ⊢
 clear hX hmm
 go_cut [] (fun wx => ∃ s, Hid (NmSt w X b Y (.slice A0 f.ins.length c0) (.slice A1 f.jobs.length c1) (.slice A2 f.outs.length c2) s wx) ∧ s.length ≤ f.ins.length ∧ Hid (onE (madeGo (outsOf f.jobs) s) (fun s => onE (readsGo s f.jobs) fun _ => toldGo s f.outs []) = R))
 case first =>
  go_wp2_with fail
  go_loopw [23] (fun i wr => ∃ (j : Nat) (s : List Bs), j ≤ f.ins.length ∧ i = .int .i64 j ∧ s.length ≤ j ∧ Hid (NmSt w X b Y (.slice A0 f.ins.length c0) (.slice A1 f.jobs.length c1) (.slice A2 f.outs.length c2) s wr) ∧ Hid (onE (madeGo ((f.ins.map fun x => (x.name, x.at_)).drop j) s) (fun s => onE (madeGo (outsOf f.jobs) s) fun s => onE (readsGo s f.jobs) fun _ => toldGo s f.outs []) = R)) (fun i _ => f.ins.length - (intOf i).toNat)
  case atStart => exact ⟨0, [], Nat.zero_le _, rfl, Nat.le_refl _, HST, HR⟩
  case round =>
   obtain ⟨j, s, hj, rfl, hsl, HN, HG⟩ := hrel
   obtain ⟨wj, rfl⟩ : ∃ z : World, z = wr := ⟨_, rfl⟩
   have hil : f.ins.length ≤ 100000 := by
    have := HS.out.all
    unfold allN at this
    rw [List.length_append, List.length_map] at this
    omega
   by_cases hjn : j < f.ins.length
   ·have hji : (j : Int) < (f.ins.length : Int) := by omega
    obtain ⟨g, cs, rfl, hg, -, ⟨vc, rfl, ⟨-, Ac, cc, rfl, -, -⟩⟩, hc⟩ := H0.out j hjn
    have d0 := HN.out.k.cell_of (hc 0 _ rfl) (by simp)
    have d1 := HN.out.k.cell_of (hc 1 _ rfl) (by simp)
    have d2 := HN.out.k.cell_of (hc 2 _ rfl) (by simp)
    rw [Nat.add_zero] at d0
    have hl : (f.ins[j]).name.length ≤ 1000 := HS.out.names _ (by unfold allN; exact List.mem_append_left _ (List.mem_map.2 ⟨_, List.getElem_mem hjn, rfl⟩))
    have hst : (f.ins.map fun x => (x.name, x.at_)).drop j = (f.ins[j].name, f.ins[j].at_) :: (f.ins.map fun x => (x.name, x.at_)).drop (j + 1) := by
     rw [List.drop_eq_getElem_cons (by simpa using hjn), List.getElem_map]
    have hg2 := HG.out
    rw [hst, madeGo_cons] at hg2
    obtain ⟨x, hx⟩ : ∃ x, f.ins[j] = x := ⟨_, rfl⟩
    rw [hx] at d0 d1 d2 hl hg2
    have HG2 := Lib.hid hg2
    have HC := Lib.hid (made_any (HN.out.keep ((Keeps.refl _ _).alloc (.cells #[.int .i64 x.at_, .string (bs x.name), .slice Ac x.cols.length cc] 63))) x.name x.at_ hl (by omega))
    clear hst hg2 hx hc hl
    go_wp2_with fail
    refine HC.out.mono ?_
    rintro e w5 (⟨hin, ⟨u, rfl, hu⟩, k5⟩ | ⟨hin, rfl, hn5, -⟩)
    ·have HE : Hid (R = .error (9, x.at_)) := Lib.hid (by
      have := HG2.out
      rw [if_pos hin] at this
      exact this.symm)
     obtain ⟨gi, rfl, hb5⟩ := hu
     have HB5 := Lib.hid hb5
     have HK5 := Lib.hid ((HN.out.k.alloc _).trans k5)
     clear hin hb5 k5
     go_wp2
     go_ret
     exact ⟨by rw [HE.out]; exact ⟨_, rfl, _, rfl, HB5.out⟩, HK5.out⟩
    ·have HG3 : Hid (onE (madeGo ((f.ins.map fun x => (x.name, x.at_)).drop (j + 1)) (x.name :: s)) (fun s => onE (madeGo (outsOf f.jobs) s) fun s => onE (readsGo s f.jobs) fun _ => toldGo s f.outs []) = R) := Lib.hid (by
      have := HG2.out
      rw [if_neg hin] at this
      exact this)
     have HN5 := Lib.hid hn5
     clear hin hn5
     go_wp2
     go_roundw
     case rel => exact ⟨j + 1, x.name :: s, by omega, by go_num, by simp; omega, HN5, HG3⟩
     case measure => simp [intOf]; omega
   ·have hji : ¬ (j : Int) < (f.ins.length : Int) := by omega
    have HG3 : Hid (onE (madeGo (outsOf f.jobs) s) (fun s => onE (readsGo s f.jobs) fun _ => toldGo s f.outs []) = R) := Lib.hid (by
     have := HG.out
     rw [List.drop_of_length_le (by simp; omega)] at this
     exact this)
    go_wp2
    go_meet
    case rel => exact ⟨s, HN, by omega, HG3⟩
 case rest =>
  obtain ⟨s, HN, hsl, HG⟩ := hcut
  clear HST HR
  have HTOT := HS.out.all
  unfold allN at HTOT
  rw [List.length_append, List.length_map] at HTOT
  have hl1 : wc.cell? ⟨X, 1, none⟩ = some (.slice A1 f.jobs.length c1) := HN.out.fb.cell 1
  have hlx := HN.out.fb.lt
  go_upto_block 2 with (fail)
  go_cut [] (fun wx => ∃ s, Hid (NmSt w X b Y (.slice A0 f.ins.length c0) (.slice A1 f.jobs.length c1) (.slice A2 f.outs.length c2) s wx) ∧ Hid (onE (readsGo s f.jobs) (fun _ => toldGo s f.outs []) = R))
  case first =>
   go_wp2_with fail
   go_loopw [40] (fun i wr => ∃ (j : Nat) (s : List Bs), j ≤ f.jobs.length ∧ i = .int .i64 j ∧ s.length + ((f.jobs.drop j).flatMap (·.outs)).length ≤ 100000 ∧ Hid (NmSt w X b Y (.slice A0 f.ins.length c0) (.slice A1 f.jobs.length c1) (.slice A2 f.outs.length c2) s wr) ∧ Hid (onE (madeGo (outsOf (f.jobs.drop j)) s) (fun s => onE (readsGo s f.jobs) fun _ => toldGo s f.outs []) = R)) (fun i _ => f.jobs.length - (intOf i).toNat)
   case atStart => exact ⟨0, s, Nat.zero_le _, rfl, by rw [List.drop_zero]; omega, HN, HG⟩
   case round =>
    clear HN HG hsl hl1 hlx
    obtain ⟨j, s, hj, rfl, hsl, HN, HG⟩ := hrel
    obtain ⟨wj, rfl⟩ : ∃ z : World, z = wr := ⟨_, rfl⟩
    by_cases hjn : j < f.jobs.length
    ·have hji : (j : Int) < (f.jobs.length : Int) := by omega
     obtain ⟨g, cs, rfl, hg, -, ⟨_, _, _, rfl, ⟨ho1, B2, e2, rfl, ho2, ho3⟩, ⟨-, B3, e3, rfl, -, -⟩, ⟨-, B4, e4, rfl, -, -⟩⟩, hc⟩ := H1.out j hjn
     have d0 := HN.out.k.cell_of (hc 0 _ rfl) (by simp)
     have d1 := HN.out.k.cell_of (hc 1 _ rfl) (by simp)
     have d2 := HN.out.k.cell_of (hc 2 _ rfl) (by simp)
     have d3 := HN.out.k.cell_of (hc 3 _ rfl) (by simp)
     have d4 := HN.out.k.cell_of (hc 4 _ rfl) (by simp)
     have d5 := HN.out.k.cell_of (hc 5 _ rfl) (by simp)
     have d6 := HN.out.k.cell_of (hc 6 _ rfl) (by simp)
     have d7 := HN.out.k.cell_of (hc 7 _ rfl) (by simp)
     have d8 := HN.out.k.cell_of (hc 8 _ rfl) (by simp)
     have d9 := HN.out.k.cell_of (hc 9 _ rfl) (by simp)
     have d10 := HN.out.k.cell_of (hc 10 _ rfl) (by simp)
     have d11 := HN.out.k.cell_of (hc 11 _ rfl) (by simp)
     have d12 := HN.out.k.cell_of (hc 12 _ rfl) (by simp)
     have d13 := HN.out.k.cell_of (hc 13 _ rfl) (by simp)
     have d14 := HN.out.k.cell_of (hc 14 _ rfl) (by simp)
     rw [Nat.add_zero] at d0
     have hnm : ∀ n ∈ f.jobs[j].outs, n.length ≤ 1000 := fun n hn => HS.out.names n (by unfold allN; exact List.mem_append_right _ (List.mem_flatMap.2 ⟨_, List.getElem_mem hjn, hn⟩))
     have hg2 := HG.out
     rw [List.drop_eq_getElem_cons hjn] at hg2 hsl
     rw [outsOf_cons] at hg2
     rw [List.flatMap_cons, List.length_append] at hsl
     obtain ⟨x, hx⟩ : ∃ x, f.jobs[j] = x := ⟨_, rfl⟩
     rw [hx] at d0 d1 d2 d3 d4 d5 d6 d7 d8 d9 d10 d11 d12 d13 d14 hnm hg2 hsl ho1 ho2 ho3
     have HG2 := Lib.hid hg2
     have HO3 := Lib.hid ho3
     have HNM := Lib.hid hnm
     have hbx := Blk.new wj 45 (jbCells x (.slice B2 x.outs.length e2) (.slice B3 x.ins.length e3) (.slice B4 x.cols.length e4))
     have HNA := Lib.hid (HN.out.keep ((Keeps.refl _ _).alloc (.cells (jbCells x (.slice B2 x.outs.length e2) (.slice B3 x.ins.length e3) (.slice B4 x.cols.length e4)) 45)))
     have hbl : b < wj.heap.size := HN.out.mp.lt
     clear hg2 hx hc ho3 hnm
     go_upto_block 4 with (fail)
     generalize hyw : wj.alloc (.cells #[.int .i64 x.at_, .int .i64 x.code, .slice B2 x.outs.length e2, .slice B3 x.ins.length e3, .slice B4 x.cols.length e4, .string (bs x.op), .string (bs x.left.col), .int .i64 x.left.val.kind, .int .i64 x.left.val.num, .string (bs x.left.val.word), .string (bs x.right.col), .int .i64 x.right.val.kind, .int .i64 x.right.val.num, .string (bs x.right.val.word), .int .i64 x.retry] 45) = y1 at *
     generalize hxb : wj.heap.size = xb at *
     have HBX : Hid (Blk y1 xb 45 (jbCells x (.slice B2 x.outs.length e2) (.slice B3 x.ins.length e3) (.slice B4 x.cols.length e4))) := Lib.hid (by rw [← hyw, ← hxb]; exact Blk.new _ _ _)
     have HNA : Hid (NmSt w X b Y (.slice A0 f.ins.length c0) (.slice (some ⟨g, 0, none⟩) f.jobs.length c1) (.slice A2 f.outs.length c2) s y1) := Lib.hid (by rw [← hyw]; exact HN.out.keep ((Keeps.refl _ _).alloc _))
     have hxbb : xb ≠ b := by omega
     have HXB := Lib.hid hxbb
     clear hyw hxb hbx hbl hxbb d0 d1 d2 d3 d4 d5 d6 d7 d8 d9 d10 d11 d12 d13 d14 HN HG
     have p0 : y1.cell? ⟨xb, 0, none⟩ = some (.int .i64 x.at_) := HBX.out.cell 0
     have p2 : y1.cell? ⟨xb, 2, none⟩ = some (.slice B2 x.outs.length e2) := HBX.out.cell 2
     have pl := HBX.out.lt
     go_wp2_with fail
     go_loopw [47] (fun i wr => ∃ (m : Nat) (s : List Bs), m ≤ x.outs.length ∧ i = .int .i64 m ∧ s.length + (x.outs.length - m) + ((f.jobs.drop (j + 1)).flatMap (·.outs)).length ≤ 100000 ∧ Hid (NmSt w X b Y (.slice A0 f.ins.length c0) (.slice (some ⟨g, 0, none⟩) f.jobs.length c1) (.slice A2 f.outs.length c2) s wr) ∧ Hid (Blk wr xb 45 (jbCells x (.slice B2 x.outs.length e2) (.slice B3 x.ins.length e3) (.slice B4 x.cols.length e4))) ∧ Hid (onE (madeGo ((x.outs.map fun n => (n, x.at_)).drop m ++ outsOf (f.jobs.drop (j + 1))) s) (fun s => onE (readsGo s f.jobs) fun _ => toldGo s f.outs []) = R)) (fun i _ => x.outs.length - (intOf i).toNat)
     case atStart => exact ⟨0, s, Nat.zero_le _, rfl, by omega, HNA, HBX, HG2⟩
     case round =>
      clear p0 p2 pl HNA HBX HG2 hsl
      obtain ⟨m, s, hm, rfl, hsl, HN, HBX, HG⟩ := hrel
      obtain ⟨wm, rfl⟩ : ∃ z : World, z = wr := ⟨_, rfl⟩
      have p0 : wm.cell? ⟨xb, 0, none⟩ = some (.int .i64 x.at_) := HBX.out.cell 0
      have pl := HBX.out.lt
      by_cases hmn : m < x.outs.length
      ·have hmi : (m : Int) < (x.outs.length : Int) := by omega
       obtain ⟨bo, oo, rfl, -, hbo, hco⟩ := (HO3.out.keep HN.out.k).open' (by omega) (by omega)
       have q0 := hco m _ (strs_at' x.outs m hmn)
       have hln := HNM.out _ (List.getElem_mem hmn)
       have hg2 := HG.out
       rw [List.drop_eq_getElem_cons (by simpa using hmn), List.getElem_map, List.cons_append, madeGo_cons] at hg2
       obtain ⟨n, hn⟩ : ∃ n, x.outs[m] = n := ⟨_, rfl⟩
       rw [hn] at q0 hln hg2
       have HG2 := Lib.hid hg2
       have HC := Lib.hid (made_any HN.out n x.at_ hln (by omega))
       clear hco hg2 hn
       go_wp2_with fail
       refine HC.out.mono ?_
       rintro e w5 (⟨hin, ⟨u, rfl, hu⟩, k5⟩ | ⟨hin, rfl, hn5, k5⟩)
       ·have HE : Hid (R = .error (9, x.at_)) := Lib.hid (by
         have := HG2.out
         rw [if_pos hin] at this
         exact this.symm)
        obtain ⟨gi, rfl, hb5⟩ := hu
        have HB5 := Lib.hid hb5
        have HK5 := Lib.hid (HN.out.k.trans k5)
        clear hin hb5 k5
        go_wp2
        go_ret
        exact ⟨by rw [HE.out]; exact ⟨_, rfl, _, rfl, HB5.out⟩, HK5.out⟩
       ·have HG3 : Hid (onE (madeGo ((x.outs.map fun n => (n, x.at_)).drop (m + 1) ++ outsOf (f.jobs.drop (j + 1))) (n :: s)) (fun s => onE (readsGo s f.jobs) fun _ => toldGo s f.outs []) = R) := Lib.hid (by
         have := HG2.out
         rw [if_neg hin] at this
         exact this)
        have HN5 := Lib.hid hn5
        have HB5 := Lib.hid (HBX.out.keep k5 (by simpa using HXB.out))
        clear hin hn5 k5
        go_wp2
        go_roundw
        case rel => exact ⟨m + 1, n :: s, by omega, by go_num, by simp only [List.length_cons]; omega, HN5, HB5, HG3⟩
        case measure => simp [intOf]; omega
      ·have hmi : ¬ (m : Int) < (x.outs.length : Int) := by omega
       have HG3 : Hid (onE (madeGo (outsOf (f.jobs.drop (j + 1))) s) (fun s => onE (readsGo s f.jobs) fun _ => toldGo s f.outs []) = R) := Lib.hid (by
        have := HG.out
        rw [List.drop_of_length_le (by simp; omega)] at this
        exact this)
       go_wp2
       go_roundw
       case rel => exact ⟨j + 1, s, by omega, by go_num, by omega, HN, HG3⟩
       case measure => simp [intOf]; omega
    ·have hji : ¬ (j : Int) < (f.jobs.length : Int) := by omega
     have HG3 : Hid (onE (readsGo s f.jobs) (fun _ => toldGo s f.outs []) = R) := Lib.hid (by
      have := HG.out
      rw [List.drop_of_length_le (by omega)] at this
      exact this)
     go_wp2
     go_meet
     case rel => exact ⟨s, HN, HG3⟩
  case rest =>
   obtain ⟨s, HN, HG⟩ := hcut
   clear hl1 hlx HTOT hsl
   have hl1 : wc.cell? ⟨X, 1, none⟩ = some (.slice A1 f.jobs.length c1) := HN.out.fb.cell 1
   have hlx := HN.out.fb.lt
   go_upto_block 6 with (fail)
   go_cut [] (fun wx => Hid (NmSt w X b Y (.slice A0 f.ins.length c0) (.slice A1 f.jobs.length c1) (.slice A2 f.outs.length c2) s wx) ∧ Hid (toldGo s f.outs [] = R))
   case first =>
    go_wp2_with fail
    go_loopw [64] (fun i wr => ∃ j : Nat, j ≤ f.jobs.length ∧ i = .int .i64 j ∧ Hid (NmSt w X b Y (.slice A0 f.ins.length c0) (.slice A1 f.jobs.length c1) (.slice A2 f.outs.length c2) s wr) ∧ Hid (onE (readsGo s (f.jobs.drop j)) (fun _ => toldGo s f.outs []) = R)) (fun i _ => f.jobs.length - (intOf i).toNat)
    case atStart => exact ⟨0, Nat.zero_le _, rfl, HN, HG⟩
    case round =>
     clear HN HG hl1 hlx
     obtain ⟨j, hj, rfl, HN, HG⟩ := hrel
     obtain ⟨wj, rfl⟩ : ∃ z : World, z = wr := ⟨_, rfl⟩
     by_cases hjn : j < f.jobs.length
     ·have hji : (j : Int) < (f.jobs.length : Int) := by omega
      obtain ⟨g, cs, rfl, hg, -, ⟨_, _, _, rfl, ⟨-, B2, e2, rfl, -, -⟩, ⟨hi1, B3, e3, rfl, hi2, hi3⟩, ⟨-, B4, e4, rfl, -, -⟩⟩, hc⟩ := H1.out j hjn
      have d0 := HN.out.k.cell_of (hc 0 _ rfl) (by simp)
      have d1 := HN.out.k.cell_of (hc 1 _ rfl) (by simp)
      have d2 := HN.out.k.cell_of (hc 2 _ rfl) (by simp)
      have d3 := HN.out.k.cell_of (hc 3 _ rfl) (by simp)
      have d4 := HN.out.k.cell_of (hc 4 _ rfl) (by simp)
      have d5 := HN.out.k.cell_of (hc 5 _ rfl) (by simp)
      have d6 := HN.out.k.cell_of (hc 6 _ rfl) (by simp)
      have d7 := HN.out.k.cell_of (hc 7 _ rfl) (by simp)
      have d8 := HN.out.k.cell_of (hc 8 _ rfl) (by simp)
      have d9 := HN.out.k.cell_of (hc 9 _ rfl) (by simp)
      have d10 := HN.out.k.cell_of (hc 10 _ rfl) (by simp)
      have d11 := HN.out.k.cell_of (hc 11 _ rfl) (by simp)
      have d12 := HN.out.k.cell_of (hc 12 _ rfl) (by simp)
      have d13 := HN.out.k.cell_of (hc 13 _ rfl) (by simp)
      have d14 := HN.out.k.cell_of (hc 14 _ rfl) (by simp)
      rw [Nat.add_zero] at d0
      have hnm : ∀ n ∈ f.jobs[j].ins, n.length ≤ 1000 := fun n hn => HS.out.ins _ (List.getElem_mem hjn) n hn
      have hg2 := HG.out
      rw [List.drop_eq_getElem_cons hjn, readsGo_cons] at hg2
      obtain ⟨x, hx⟩ : ∃ x, f.jobs[j] = x := ⟨_, rfl⟩
      rw [hx] at d0 d1 d2 d3 d4 d5 d6 d7 d8 d9 d10 d11 d12 d13 d14 hnm hg2 hi1 hi2 hi3
      have HG2 := Lib.hid hg2
      have HNA := Lib.hid (HN.out.keep ((Keeps.refl _ _).alloc (.cells (jbCells x (.slice B2 x.outs.length e2) (.slice B3 x.ins.length e3) (.slice B4 x.cols.length e4)) 45)))
      have HC : Hid (∀ W, Keeps [] wj W → Calls Tryz.prog 60 #[.slice B3 x.ins.length e3, .func (.func 94) #[] #[.pointer (some ⟨Y, 0, none⟩)]] W fun e w' => e = .returned (.bool (x.ins.any fun n => !decide (n ∈ s))) ∧ Keeps [] W w') := Lib.hid fun W z =>
       containsFuncS_any 94 _ (fun _ _ => by rfl) (fun n => !decide (n ∈ s)) x.ins B3 e3 W (hi3.keep (HN.out.k.trans z)) hi1 (fun n hn W' z' => seen_any (HN.out.keep (z.trans z')) n (hnm n hn))
      have HKW := Lib.hid (HN.out.k.alloc (.cells (jbCells x (.slice B2 x.outs.length e2) (.slice B3 x.ins.length e3) (.slice B4 x.cols.length e4)) 45))
      clear hg2 hx hc hi3 hnm
      cases hany : (x.ins.any fun n => !decide (n ∈ s)) with
      | true =>
       have HE : Hid (R = .error (7, x.at_)) := Lib.hid (by
        have := HG2.out
        rw [if_pos hany] at this
        exact this.symm)
       rw [hany] at HC
       clear hany
       go_wp2_with ((with_reducible refine (HC.out _ ((Keeps.refl _ _).alloc _)).mono ?_); rintro e w5 ⟨rfl, k5⟩; have b5 : w5.cell? ⟨wj.heap.size, 0, none⟩ = some (.int .i64 x.at_) := ((Blk.new wj 45 (jbCells x (.slice B2 x.outs.length e2) (.slice B3 x.ins.length e3) (.slice B4 x.cols.length e4))).keep k5 (by simp)).cell 0; have b5l := ((Blk.new wj 45 (jbCells x (.slice B2 x.outs.length e2) (.slice B3 x.ins.length e3) (.slice B4 x.cols.length e4))).keep k5 (by simp)).lt)
       go_ret
       exact ⟨by rw [HE.out]; exact ⟨_, rfl, _, rfl, Blk.new _ _ _⟩, (HKW.out.trans k5).alloc _⟩
      | false =>
       have HG3 : Hid (onE (readsGo s (f.jobs.drop (j + 1))) (fun _ => toldGo s f.outs []) = R) := Lib.hid (by
        have := HG2.out
        rw [hany] at this
        exact this)
       rw [hany] at HC
       clear hany
       go_wp2_with ((with_reducible refine (HC.out _ ((Keeps.refl _ _).alloc _)).mono ?_); rintro e w5 ⟨rfl, k5⟩)
       have HN5 := Lib.hid (HNA.out.keep k5)
       go_roundw
       case rel => exact ⟨j + 1, by omega, by go_num, HN5, HG3⟩
       case measure => simp [intOf]; omega
     ·have hji : ¬ (j : Int) < (f.jobs.length : Int) := by omega
      have HG3 : Hid (toldGo s f.outs [] = R) := Lib.hid (by
       have := HG.out
       rw [List.drop_of_length_le (by omega)] at this
       exact this)
      go_wp2
      go_meet
      case rel => exact ⟨HN, HG3⟩
   case rest =>
    clear HN HG hl1 hlx
    obtain ⟨HN, HG⟩ := hcut
    obtain ⟨y5, rfl⟩ : ∃ z : World, z = wc := ⟨_, rfl⟩
    have hl1 : y5.cell? ⟨X, 2, none⟩ = some (.slice A2 f.outs.length c2) := HN.out.fb.cell 2
    have hlx := HN.out.fb.lt
    have hmm := @run_makeMap Tryz.prog
    have HS5 := Lib.hid (SetOf.made (P := Tryz.prog) (S := 9) (E := 4) y5)
    have HN5 := Lib.hid (HN.out.keep ((Keeps.refl _ _).alloc (.map #[] 0)))
    have hl2 : (y5.alloc (.map #[] 0)).cell? ⟨X, 2, none⟩ = some (.slice A2 f.outs.length c2) := HN5.out.fb.cell 2
    have hb2 : y5.heap.size ≠ X ∧ y5.heap.size ≠ Y ∧ y5.heap.size ≠ b ∧ w.heap.size ≤ y5.heap.size := by
     have a1 := HN.out.fb.lt
     have a2 := HN.out.mb.lt
     have a3 := HN.out.mp.lt
     have a4 := HN.out.k.size
     omega
    go_upto_block 8 with (fail)
    generalize hq : y5.alloc (.map #[] 0) = y6 at HS5 HN5 hl2 ⊢
    generalize hq2 : y5.heap.size = b2 at HS5 hb2 ⊢
    clear hq hq2 hmm hl1 hlx HN
    have hl1 := hl2
    have hlx := HN5.out.fb.lt
    go_wp2_with fail
    go_loopw [82] (fun i wr => ∃ (j : Nat) (told : List Bs), j ≤ f.outs.length ∧ i = .int .i64 j ∧ told.length ≤ j ∧ Hid (NmSt w X b Y (.slice A0 f.ins.length c0) (.slice A1 f.jobs.length c1) (.slice A2 f.outs.length c2) s wr) ∧ Hid (SetB wr b2 told) ∧ Hid (toldGo s (f.outs.drop j) told = R)) (fun i _ => f.outs.length - (intOf i).toNat)
    case atStart => exact ⟨0, [], Nat.zero_le _, rfl, Nat.le_refl _, HN5, HS5, HG⟩
    case round =>
     clear HN5 HS5 HG hl1 hl2 hlx
     obtain ⟨j, told, hj, rfl, htl, HN, HS2, HG⟩ := hrel
     obtain ⟨wj, rfl⟩ : ∃ z : World, z = wr := ⟨_, rfl⟩
     by_cases hjn : j < f.outs.length
     ·have hji : (j : Int) < (f.outs.length : Int) := by omega
      obtain ⟨g, cs, rfl, hg, -, hcs, hc⟩ := H2.out j hjn
      obtain rfl := hcs
      have d0 := HN.out.k.cell_of (hc 0 _ rfl) (by simp)
      have d1 := HN.out.k.cell_of (hc 1 _ rfl) (by simp)
      have d2 := HN.out.k.cell_of (hc 2 _ rfl) (by simp)
      rw [Nat.add_zero] at d0
      have hnm := HS.out.told _ (List.getElem_mem hjn)
      have hol := HS.out.outs
      have hg2 := HG.out
      rw [List.drop_eq_getElem_cons hjn, toldGo_cons] at hg2
      obtain ⟨x, hx⟩ : ∃ x, f.outs[j] = x := ⟨_, rfl⟩
      rw [hx] at d0 d1 d2 hnm hg2
      have HNA := Lib.hid (HN.out.keep ((Keeps.refl _ _).alloc (.cells #[.int .i64 x.at_, .string (bs x.name), .string (bs x.src)] 83)))
      have HSA := Lib.hid (HS2.out.keep (L := []) ((Keeps.refl _ _).alloc (.cells #[.int .i64 x.at_, .string (bs x.name), .string (bs x.src)] 83)) (by simp))
      have m0 : (wj.alloc (.cells #[.int .i64 x.at_, .string (bs x.name), .string (bs x.src)] 83)).cell? ⟨Y, 0, none⟩ = some (.map (some b)) := HNA.out.mb.cell 0
      have mY := HN.out.mb.lt
      have mYY : Y ≠ wj.heap.size := by omega
      have lk1 := HNA.out.mp.lookB x.src hnm.2
      have lk2 := HSA.out.lookB x.name hnm.1
      have HG2 := Lib.hid hg2
      clear hg2 hx hc
      by_cases hsrc : x.src ∈ s
      ·rw [decide_eq_true hsrc] at lk1
       by_cases hin : x.name ∈ told
       ·rw [decide_eq_true hin] at lk2
        have HE : Hid (R = .error (9, x.at_)) := Lib.hid (by
         have := HG2.out
         rw [if_neg (fun h => h hsrc), if_pos hin] at this
         exact this.symm)
        clear hsrc hin
        go_wp2
        go_ret
        exact ⟨by rw [HE.out]; exact ⟨_, rfl, _, rfl, Blk.new' (wj.alloc _) _ _ _ (by rw [fsz])⟩, HNA.out.k.alloc _⟩
       ·rw [decide_eq_false hin] at lk2
        obtain ⟨w7, hrun, hs7, hg7⟩ := HSA.out.storeB x.name hnm.1 (by omega)
        have hk7 : Keeps [b2] (wj.alloc (.cells #[.int .i64 x.at_, .string (bs x.name), .string (bs x.src)] 83)) w7 := (Keeps.refl [b2] _).grown hg7 (fun g hg => .inl (by injection hg with hg; simp [hg]))
        have HN7 : Hid (NmSt w X b Y (.slice A0 f.ins.length c0) (.slice A1 f.jobs.length c1) (.slice (some ⟨g, 0, none⟩) f.outs.length c2) s w7) := Lib.hid ⟨HNA.out.k.trans' hk7 (fun q hq hl => by rw [List.mem_singleton.1 hq] at hl; omega), HNA.out.fb.keep hk7 (by simpa using hb2.1.symm), HNA.out.mb.keep hk7 (by simpa using hb2.2.1.symm), HNA.out.mp.keep hk7 (by simpa using hb2.2.2.1.symm), HN.out.hb, HN.out.xb, HN.out.yb⟩
        have HS7 := Lib.hid hs7
        have HG3 : Hid (toldGo s (f.outs.drop (j + 1)) (x.name :: told) = R) := Lib.hid (by
         have := HG2.out
         rw [if_neg (fun h => h hsrc), if_neg hin] at this
         exact this)
        clear hsrc hin hs7 hg7 hk7
        go_wp2
        go_roundw
        case rel => exact ⟨j + 1, x.name :: told, by omega, by go_num, by simp only [List.length_cons]; omega, HN7, HS7, HG3⟩
        case measure => simp [intOf]; omega
      ·rw [decide_eq_false hsrc] at lk1
       have HE : Hid (R = .error (7, x.at_)) := Lib.hid (by
        have := HG2.out
        rw [if_pos hsrc] at this
        exact this.symm)
       clear hsrc lk2
       go_wp2
       go_ret
       exact ⟨by rw [HE.out]; exact ⟨_, rfl, _, rfl, Blk.new' (wj.alloc _) _ _ _ (by rw [fsz])⟩, HNA.out.k.alloc _⟩
     ·have hji : ¬ (j : Int) < (f.outs.length : Int) := by omega
      have HE : Hid (R = .ok ()) := Lib.hid (by
       have := HG.out
       rw [List.drop_of_length_le (by omega)] at this
       exact this.symm)
      go_wp2
      go_ret
      exact ⟨by rw [HE.out]; rfl, HN.out.k⟩
end Go.Proofs.YtnjjajanfedjiaaGreatDoor
