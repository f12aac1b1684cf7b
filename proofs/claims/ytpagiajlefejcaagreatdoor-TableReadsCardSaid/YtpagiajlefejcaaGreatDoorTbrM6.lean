/- The reference's low, dig, in, Name, RightValue, Less. The reference's RightCols. The reference's RightValue. -/
import Derived.Test.YtpagiajlefejcaaGreatDoorTbrM4
import Derived.Test.YtpagiajlefejcaaGreatDoorTbrM5
import Derived.Test.YtpagiajlefejcaaGreatDoorTbrM2
import Derived.Deep.CutBlock
import Derived.Deep.DeepCutAuto
import Derived.Deep.CutRange
set_option linter.unusedSimpArgs false
set_option linter.unusedVariables false
namespace Go.Proofs.YtpagiajlefejcaaGreatDoor
open Go.RowKit
attribute [local go_sem] bs_size bs_extract bs_append bs_toList
def nameAt (i : Nat) (b : UInt8) : Bool := lowB b || (!decide (i = 0) && digB b)
theorem letters_low (b : UInt8) : letters.contains b = lowB b := by
 have h : ∀ n : Fin 256, letters.contains (UInt8.ofNat n.val) = lowB (UInt8.ofNat n.val) := by decide +kernel
 have := h ⟨b.toNat, b.toNat_lt⟩
 simpa using this
theorem ld_iff (b : UInt8) : lettersDigits.contains b = (lowB b || digB b) := by
 have h : ∀ n : Fin 256, lettersDigits.contains (UInt8.ofNat n.val) = (lowB (UInt8.ofNat n.val) || digB (UInt8.ofNat n.val)) := by decide +kernel
 have := h ⟨b.toNat, b.toNat_lt⟩
 simpa using this
theorem nameB_iff (s : Bs) : nameB s = true ↔ (∀ i (h : i < s.length), nameAt i s[i] = true) ∧ 1 ≤ s.length ∧ s.length ≤ 10 := by
 unfold nameB nameAt
 simp only [Bool.and_eq_true, decide_eq_true_eq, List.all_eq_true, letters_low, ld_iff]
 cases s with
 | nil => simp
 | cons b l =>
  simp only [List.isEmpty_cons, Bool.not_false, true_and, List.getD_cons_zero, List.length_cons]
  constructor
  ·rintro ⟨⟨h1, h2⟩, h3⟩
   refine ⟨fun i hi => ?_, by omega, h1⟩
   cases i with
   | zero => simp only [List.getElem_cons_zero, h2, Bool.true_or]
   | succ i =>
    have := h3 ((b :: l)[i + 1]) (List.getElem_mem hi)
    simpa using this
  ·rintro ⟨h1, _, h3⟩
   refine ⟨⟨h3, ?_⟩, fun x hx => ?_⟩
   ·have := h1 0 (by simp)
    simpa using this
   ·obtain ⟨i, hi, rfl⟩ := List.getElem_of_mem hx
    have := h1 i hi
    rw [Bool.or_eq_true] at this ⊢
    rcases this with h | h
    ·exact .inl h
    ·rw [Bool.and_eq_true] at h
     exact .inr h.2
set_option maxHeartbeats 2000000 in
theorem rname_any (s : Bs) (hs : s.length ≤ 1000000000) (w : World) :
  Calls Tryz.prog 15 #[.string (bs s)] w fun e w' => e = .returned (.bool (nameB s)) ∧ w = w' := by
 obtain ⟨R, hR⟩ : ∃ R, nameB s = R := ⟨_, rfl⟩
 rw [hR]
 have HR := Lib.hid hR
 clear hR
 have HI := Lib.hid (nameB_iff s)
 have HLO := Lib.hid (fun (b : UInt8) (W : World) => low_any b W)
 have HDI := Lib.hid (fun (b : UInt8) (W : World) => dig_any b W)
 go_enter Tryz.func15, Tryz.ntmps15
 go_wp2
 go_loop [6] (fun i => ∃ n : Nat, n ≤ s.length ∧ i = .int .i64 n ∧ Hid (∀ j (hj : j < n) (h : j < s.length), nameAt j s[j] = true)) (fun i => s.length - (intOf i).toNat)
 case atStart => exact ⟨0, Nat.zero_le _, rfl, fun j hj => absurd hj (by omega)⟩
 case round =>
  obtain ⟨n, hn, rfl, hno⟩ := hrel
  by_cases hlt : n < s.length
  ·have hbyte : ((bs s)[n]'(by rw [bs_size]; exact hlt)) = s[n] := bs_get s n _
   have hbad : nameAt n s[n] = false → Hid (R = false) := fun h => Lib.hid (by
    rw [← HR.out, Bool.eq_false_iff]
    intro h2
    have := (HI.out.1 h2).1 n hlt
    rw [h] at this
    cases this)
   have hgood : nameAt n s[n] = true → Hid (∀ j (hj : j < n + 1) (h : j < s.length), nameAt j s[j] = true) := fun h => Lib.hid fun j hj hl => by
    by_cases hx : j < n
    ·exact hno.out j hx hl
    ·obtain rfl : j = n := by omega
     exact h
   generalize s[n] = b at *
   have HL := Lib.hid (HLO.out b)
   have HD := Lib.hid (HDI.out b)
   have HB := Lib.hid hbad
   have HG := Lib.hid hgood
   clear hbad hgood
   cases hl : lowB b with
   | true =>
    have hg := HG.out (by unfold nameAt; rw [hl]; rfl)
    rw [hl] at HL
    clear hl
    go_wp2_with (go_at_call 55; refine (HL.out _).mono ?_; rintro e w' ⟨rfl, rfl⟩)
    go_round
    case rel => exact ⟨n + 1, by omega, by go_num, hg⟩
    case measure => simp [intOf]; omega
   | false =>
    rw [hl] at HL
    by_cases h0 : n = 0
    ·subst h0
     have hf := HB.out (by unfold nameAt; rw [hl]; rfl)
     clear hl
     go_wp2_with (go_at_call 55; refine (HL.out _).mono ?_; rintro e w' ⟨rfl, rfl⟩)
     go_ret
     exact ⟨by rw [hf.out]; rfl, rfl⟩
    ·have t0 : ((n : Int) == 0) = false := by rw [beq_eq_false_iff_ne]; omega
     cases hd : digB b with
     | true =>
      have hg := HG.out (by unfold nameAt; rw [hl, hd, decide_eq_false h0]; rfl)
      rw [hd] at HD
      clear hl hd h0
      go_wp2_with (first | (go_at_call 55; refine (HL.out _).mono ?_; rintro e w' ⟨rfl, rfl⟩) | (go_at_call 56; refine (HD.out _).mono ?_; rintro e w' ⟨rfl, rfl⟩))
      go_round
      case rel => exact ⟨n + 1, by omega, by go_num, hg⟩
      case measure => simp [intOf]; omega
     | false =>
      have hf := HB.out (by unfold nameAt; rw [hl, hd, Bool.and_false]; rfl)
      rw [hd] at HD
      clear hl hd h0
      go_wp2_with (first | (go_at_call 55; refine (HL.out _).mono ?_; rintro e w' ⟨rfl, rfl⟩) | (go_at_call 56; refine (HD.out _).mono ?_; rintro e w' ⟨rfl, rfl⟩))
      go_ret
      exact ⟨by rw [hf.out]; rfl, rfl⟩
  ·have hR2 : R = decide (1 ≤ (s.length : Int) ∧ (s.length : Int) ≤ 10) := by
    rw [← HR.out, Bool.eq_iff_iff, decide_eq_true_iff, HI.out]
    constructor
    ·rintro ⟨_, h1, h2⟩; omega
    ·rintro ⟨h1, h2⟩; exact ⟨fun i h => hno.out i (by omega) h, by omega, by omega⟩
   have HIN := Lib.hid (fun W => in_any (s.length : Int) 1 10 W)
   rw [← hR2] at HIN
   clear hR2
   go_wp2_with (go_at_call 50; refine (HIN.out _).mono ?_; rintro e w' ⟨rfl, rfl⟩)
   go_ret
   exact ⟨rfl, rfl⟩
end Go.Proofs.YtpagiajlefejcaaGreatDoor
namespace Go.Proofs.YtpagiajlefejcaaGreatDoor
open Go.RowKit Go.BigFrame
attribute [local go_sem] bs_size bs_extract bs_append bs_toList
def cntC (l : List Cl) (n : Bs) : Nat := (l.filter fun d => d.name == n).length
theorem cntC_snoc (l : List Cl) (c : Cl) (n : Bs) : cntC (l ++ [c]) n = if n = c.name then cntC l n + 1 else cntC l n := by
 unfold cntC
 rw [List.filter_append, List.length_append]
 by_cases h : n = c.name
 ·subst h; rw [if_pos rfl]; simp
 ·have : (c.name == n) = false := by rw [beq_eq_false_iff_ne]; exact fun e => h e.symm
  rw [if_neg h]; simp [this]
theorem cntC_any (l : List Cl) (n : Bs) : (l.any fun d => d.name == n) = decide (0 < cntC l n) := by
 unfold cntC
 rw [Bool.eq_iff_iff, decide_eq_true_iff, List.any_eq_true, List.length_pos_iff_exists_mem]
 constructor
 ·rintro ⟨x, h1, h2⟩; exact ⟨x, List.mem_filter.2 ⟨h1, h2⟩⟩
 ·rintro ⟨x, h⟩; exact ⟨x, List.mem_filter.1 h⟩
theorem cntC_le (l : List Cl) (n : Bs) : cntC l n ≤ l.length := List.length_filter_le ..
set_option maxRecDepth 100000 in
set_option maxHeartbeats 8000000 in
theorem rRightCols_any (l : List Cl) (A : Option Addr) (c : Nat) (w : World) (hR : Rd w [] 2 A l.length (csCells l)) (hn : ∀ x ∈ l, x.name.length ≤ 1000000) (hl : l.length ≤ 1000000) :
  Calls Tryz.prog 11 #[.slice A l.length c] w fun e w' => e = .returned (.bool (colsB l)) ∧ Keeps [] w w' := by
 have HR := Lib.hid hR
 have HN := Lib.hid hn
 clear hR hn
 have hmm := @run_makeMap Tryz.prog
 have HM := Lib.hid (CntM.made w)
 have HK := Lib.hid ((Keeps.refl [] w).alloc (.map #[] 0))
 go_enter Tryz.func11, Tryz.ntmps11
 go_upto_region 2 with (fail)
 obtain ⟨w1, hw1⟩ : ∃ z, w.alloc (.map #[] 0) = z := ⟨_, rfl⟩
 obtain ⟨b, hb⟩ : ∃ z, w.heap.size = z := ⟨_, rfl⟩
 rw [hw1] at HK HM ⊢
 rw [hb] at HM ⊢
 have HBW := Lib.hid hb
 clear hw1 hmm hb
 go_wp2
 go_loopw [9] (fun i wr => ∃ n : Nat, n ≤ l.length ∧ i = .int .i64 n ∧ Hid (∀ j, j < n → okCol l j = true) ∧ Hid (CntM wr b n (cntC (l.take n))) ∧ Hid (Keeps [] w wr)) (fun i _ => l.length - (intOf i).toNat)
 case atStart => exact ⟨0, Nat.zero_le _, rfl, Lib.hid (fun j hj => absurd hj (by omega)), HM, HK⟩
 case round =>
  obtain ⟨n, hn, rfl, hno, hcm, hk⟩ := hrel
  obtain ⟨z, rfl⟩ : ∃ z : World, z = wr := ⟨_, rfl⟩
  by_cases hlt : n < l.length
  ·have hli : (n : Int) < (l.length : Int) := by omega
   obtain ⟨g, o, rfl, _, hg, hcs⟩ := (HR.out.keep hk.out).open' (by omega) (by omega)
   have d1 := hcs (n * 2) _ (csCells_at l n hlt).1
   have d2 := hcs (n * 2 + 1) _ (csCells_at l n hlt).2
   rw [← Nat.add_assoc] at d2
   have hx1 := HN.out _ (List.getElem_mem hlt)
   have hok : okCol l n = (nameB l[n].name && (decide (l[n].kind = 1) || decide (l[n].kind = 2)) && !((l.take n).any fun d => d.name == l[n].name)) := by unfold okCol; rw [List.getElem?_eq_getElem hlt]
   have htk : l.take (n + 1) = l.take n ++ [l[n]] := List.take_succ_eq_append_getElem hlt
   generalize l[n] = x at *
   obtain ⟨nm, kd⟩ := x
   simp only at d1 d2 hx1 hok
   rw [cntC_any] at hok
   have hcl := cntC_le (l.take n) nm
   rw [List.length_take] at hcl
   have hka : Keeps [] z (z.alloc (.cells #[.string (bs nm), .int .i64 kd] 109)) := (Keeps.refl _ _).alloc _
   have hblk := Blk.new z 109 #[.string (bs nm), .int .i64 kd]
   have hl1 := (hcm.out.keep hka (by simp)).look nm hx1
   obtain ⟨w6, hrun, hc6, hg6⟩ := (hcm.out.keep hka (by simp)).put nm hx1 (by omega) (cntC (l.take n) nm + 1)
   have hkb : Keeps [b] (z.alloc (.cells #[.string (bs nm), .int .i64 kd] 109)) w6 := (Keeps.refl [b] _).grown hg6 (fun g hg => .inl (by injection hg with hg; simp [hg]))
   have hl2 := hc6.look nm hx1
   simp only [if_pos] at hl2
   have hbz : b ≠ z.heap.size := by have := hcm.out.lt; omega
   have q0 : w6.cell? ⟨z.heap.size, 0, none⟩ = some (.string (bs nm)) := (hblk.keep hkb (by simpa using Ne.symm hbz)).cell 0
   have q1 : w6.cell? ⟨z.heap.size, 1, none⟩ = some (.int .i64 kd) := (hblk.keep hkb (by simpa using Ne.symm hbz)).cell 1
   have HK6 : Hid (Keeps [] w w6) := Lib.hid ((hk.out.trans hka).trans' hkb fun y hy hly => by rw [List.mem_singleton.1 hy, ← HBW.out] at hly; exact absurd hly (Nat.lt_irrefl _))
   have HC6 : Hid (CntM w6 b (n + 1) (cntC (l.take (n + 1)))) := Lib.hid (by
    rw [htk, show cntC (l.take n ++ [⟨nm, kd⟩]) = fun x => if x = nm then cntC (l.take n) nm + 1 else cntC (l.take n) x from funext fun x => by
     rw [cntC_snoc]
     by_cases h : x = nm
     ·rw [if_pos h, if_pos h, h]
     ·rw [if_neg h, if_neg h]]
    exact hc6)
   have HBAD : Hid (okCol l n = false → colsB l = false) := Lib.hid (fun h => colsB_false hlt h)
   have hw1 : IntKind.i64.wrap ((cntC (l.take n) nm : Int) + 1) = ((cntC (l.take n) nm + 1 : Nat) : Int) := by simp [IntKind.wrap, IntKind.bits, IntKind.signed]; omega
   have hnm := rname_any nm (by omega) w6
   obtain ⟨k, hkc⟩ : ∃ k, cntC (l.take n) nm = k := ⟨_, rfl⟩
   rw [hkc] at hok hl1 hl2 hrun hw1 hcl
   have hl2' : (Instr.lookup 116 (.map (some b)) (.string (bs nm)) false).run Tryz.prog w6 = .ok (.int .i64 ((k : Int) + 1)) w6 := hl2
   have hrun' : (Instr.mapUpdate 116 (.map (some b)) (.string (bs nm)) (.int .i64 ((k : Int) + 1))).run Tryz.prog (z.alloc (.cells #[.string (bs nm), .int .i64 kd] 109)) = .ok () w6 := hrun
   have hw1' : IntKind.i64.wrap ((k : Int) + 1) = (k : Int) + 1 := hw1
   have hin := in_any kd 1 2 w6
   clear hcs hka hblk hc6 hg6 hkb hbz htk hkc hl2 hrun hw1 hcm hk
   cases hb1 : nameB nm with
   | false =>
    rw [hb1] at hnm hok
    have HF := Lib.hid (HBAD.out (by rw [hok]; rfl))
    clear hok hb1 hl2' hin
    go_wp2_with fail
    refine hnm.mono ?_
    rintro e w7 ⟨rfl, rfl⟩
    go_wp2
    go_ret
    exact ⟨by rw [HF.out]; rfl, HK6.out⟩
   | true =>
    rw [hb1] at hnm hok
    clear hb1
    by_cases hk0 : 0 < k
    ·have HF := Lib.hid (HBAD.out (by rw [hok, decide_eq_true hk0]; simp))
     have hk1 : (1 : Int) < (k : Int) + 1 := by omega
     clear hok hin hk0
     go_wp2_with fail
     refine hnm.mono ?_
     rintro e w7 ⟨rfl, rfl⟩
     go_wp2
     go_ret
     exact ⟨by rw [HF.out]; rfl, HK6.out⟩
    ·have hk1 : ¬ (1 : Int) < (k : Int) + 1 := by omega
     by_cases hk12 : 1 ≤ kd ∧ kd ≤ 2
     ·have hok2 : okCol l n = true := by
       rw [hok, decide_eq_false hk0]
       rcases (by omega : kd = 1 ∨ kd = 2) with rfl | rfl <;> rfl
      rw [decide_eq_true hk12] at hin
      have HNO : Hid (∀ j, j < n + 1 → okCol l j = true) := Lib.hid (fun j hj => by
       by_cases h : j < n
       ·exact hno.out j h
       ·obtain rfl : j = n := by omega
        exact hok2)
      clear hok hok2 hk0 hk12
      go_wp2_with fail
      refine hnm.mono ?_
      rintro e w7 ⟨rfl, rfl⟩
      go_wp2_with fail
      refine hin.mono ?_
      rintro e w8 ⟨rfl, rfl⟩
      go_wp2
      go_roundw
      case rel => exact ⟨n + 1, by omega, by go_num, HNO, HC6, HK6⟩
      case measure => simp [intOf]; omega
     ·have HF := Lib.hid (HBAD.out (by
       rw [hok]
       have h1 : kd ≠ 1 := fun h => hk12 (by omega)
       have h2 : kd ≠ 2 := fun h => hk12 (by omega)
       simp [h1, h2]))
      rw [decide_eq_false hk12] at hin
      clear hok hk0 hk12
      go_wp2_with fail
      refine hnm.mono ?_
      rintro e w7 ⟨rfl, rfl⟩
      go_wp2_with fail
      refine hin.mono ?_
      rintro e w8 ⟨rfl, rfl⟩
      go_wp2
      go_ret
      exact ⟨by rw [HF.out]; rfl, HK6.out⟩
  ·have hli : ¬ (n : Int) < (l.length : Int) := by omega
   have HFIN : Hid (decide ((1 : Int) ≤ (l.length : Int) ∧ (l.length : Int) ≤ 6) = colsB l) := Lib.hid (by
    unfold colsB
    rw [show (List.range l.length).all (okCol l) = true from List.all_eq_true.2 fun j hj => hno.out j (by have := List.mem_range.1 hj; omega), Bool.and_true, Bool.eq_iff_iff, decide_eq_true_iff, Bool.and_eq_true, decide_eq_true_iff, decide_eq_true_iff]
    omega)
   have hin := in_any (l.length : Int) 1 6 z
   rw [HFIN.out] at hin
   go_wp2_with fail
   refine hin.mono ?_
   rintro e w8 ⟨rfl, rfl⟩
   go_wp2
   go_ret
   exact ⟨rfl, hk.out⟩
end Go.Proofs.YtpagiajlefejcaaGreatDoor
namespace Go.Proofs.YtpagiajlefejcaaGreatDoor
open Go.RowKit Go.Sort
attribute [local go_sem] bs_size bs_extract bs_append bs_toList
set_option maxHeartbeats 4000000 in
theorem rRightValue_any (v : Vl) (hs : v.word.length ≤ 1000000000) (w : World) :
  Calls Tryz.prog 9 #[vAgg v] w fun e w' => e = .returned (.bool (rvB v)) ∧ Keeps [] w w' := by
 obtain ⟨k, n, s⟩ := v
 simp only at hs
 show Calls _ _ #[.agg #[.int .i64 k, .int .i64 n, .string (bs s)]] w _
 obtain ⟨R, hR⟩ : ∃ R, rvB ⟨k, n, s⟩ = R := ⟨_, rfl⟩
 rw [hR]
 have hk0 : Keeps [] w (w.alloc (.cells #[.int .i64 k, .int .i64 n, .string (bs s)] 27)) := (Keeps.refl _ _).alloc _
 have HK0 := Lib.hid hk0
 clear hk0
 by_cases h1 : k = 1
 ·have hb1 : (k == 1) = true := by rw [h1]; rfl
  have HR : Hid (R = ((s == []) && decide (-1000000000 ≤ n) && decide (n ≤ 1000000000))) := Lib.hid (hR.symm.trans (if_pos h1))
  have HIN := Lib.hid (fun W => in_any n (-1000000000) 1000000000 W)
  by_cases hn : -1000000000 ≤ n ∧ n ≤ 1000000000
  ·rw [decide_eq_true hn] at HIN
   have hr2 : R = (s == []) := by rw [HR.out, decide_eq_true hn.1, decide_eq_true hn.2]; simp
   have HR2 := Lib.hid hr2
   clear h1 hR hr2 hn
   cases s with
   | nil =>
    go_enter Tryz.func9, Tryz.ntmps9
    go_wp2_with (go_at_call 50; refine (HIN.out _).mono ?_; rintro e w' ⟨rfl, rfl⟩)
    go_ret
    exact ⟨by rw [HR2.out]; rfl, HK0.out⟩
   | cons a t =>
    go_enter Tryz.func9, Tryz.ntmps9
    go_wp2_with (go_at_call 50; refine (HIN.out _).mono ?_; rintro e w' ⟨rfl, rfl⟩)
    go_ret
    exact ⟨by rw [HR2.out]; rfl, HK0.out⟩
  ·rw [decide_eq_false hn] at HIN
   have hr2 : R = false := by
    rw [HR.out]
    by_cases h2 : -1000000000 ≤ n
    ·rw [decide_eq_false (show ¬ n ≤ 1000000000 from fun h => hn ⟨h2, h⟩), Bool.and_false]
    ·rw [decide_eq_false h2, Bool.and_false, Bool.false_and]
   have HR2 := Lib.hid hr2
   clear h1 hR hr2 hn
   go_enter Tryz.func9, Tryz.ntmps9
   go_wp2_with (go_at_call 50; refine (HIN.out _).mono ?_; rintro e w' ⟨rfl, rfl⟩)
   go_ret
   exact ⟨by rw [HR2.out]; rfl, HK0.out⟩
 ·have hb1 : (k == 1) = false := by rw [beq_eq_false_iff_ne]; exact h1
  have HR : Hid (R = if k = 2 then decide (n = 0) && decide (s.length ≤ 16) && !s.any badB else false) := Lib.hid (hR.symm.trans (if_neg h1))
  clear h1 hR
  go_enter Tryz.func9, Tryz.ntmps9
  go_wp2
  have c0 : (w.alloc (.cells #[.int .i64 k, .int .i64 n, .string (bs s)] 27)).cell? ⟨w.heap.size, 0, none⟩ = some (.int .i64 k) := (Blk.new _ _ _).cell 0
  have c1 : (w.alloc (.cells #[.int .i64 k, .int .i64 n, .string (bs s)] 27)).cell? ⟨w.heap.size, 1, none⟩ = some (.int .i64 n) := (Blk.new _ _ _).cell 1
  have c2 : (w.alloc (.cells #[.int .i64 k, .int .i64 n, .string (bs s)] 27)).cell? ⟨w.heap.size, 2, none⟩ = some (.string (bs s)) := (Blk.new _ _ _).cell 2
  generalize (w.alloc (.cells #[.int .i64 k, .int .i64 n, .string (bs s)] 27)) = w2 at *
  generalize w.heap.size = bx at *
  go_loop [19] (fun i => ∃ m : Nat, m ≤ s.length ∧ i = .int .i64 m ∧ Hid (∀ j (hj : j < m) (h : j < s.length), badB s[j] = false)) (fun i => s.length - (intOf i).toNat)
  case atStart => exact ⟨0, Nat.zero_le _, rfl, fun j hj => absurd hj (by omega)⟩
  case round =>
   obtain ⟨m, hm, rfl, hno⟩ := hrel
   by_cases hlt : m < s.length
   ·have hbyte : ((bs s)[m]'(by rw [bs_size]; exact hlt)) = s[m] := bs_get s m _
    have hbad : badB s[m] = true → Hid (R = false) := fun h => Lib.hid (by
     rw [HR.out]
     split
     ·rw [List.any_eq_true.2 ⟨s[m], List.getElem_mem hlt, h⟩]; simp
     ·rfl)
    have hgood : badB s[m] = false → Hid (∀ j (hj : j < m + 1) (h : j < s.length), badB s[j] = false) := fun h => Lib.hid fun j hj hl => by
     by_cases hx : j < m
     ·exact hno.out j hx hl
     ·obtain rfl : j = m := by omega
      exact h
    have hib : (0 : Int) ≤ (m : Int) := by omega
    have hic : (m : Int) < (s.length : Int) := by omega
    generalize s[m] = b at *
    by_cases h32 : b.toNat < 32
    ·have t1 : decide ((b.toNat : Int) < 32) = true := decide_eq_true (by omega)
     have hf := hbad (by unfold badB; rw [decide_eq_true h32]; rfl)
     clear hbad hgood h32
     go_wp2
     go_ret
     exact ⟨by rw [hf.out]; rfl, HK0.out⟩
    ·have t1 : decide ((b.toNat : Int) < 32) = false := decide_eq_false (by omega)
     by_cases h126 : 126 < b.toNat
     ·have t2 : decide ((126 : Int) < (b.toNat : Int)) = true := decide_eq_true (by omega)
      have hf := hbad (by unfold badB; rw [decide_eq_true h126]; simp)
      clear hbad hgood h32 h126
      go_wp2
      go_ret
      exact ⟨by rw [hf.out]; rfl, HK0.out⟩
     ·have t2 : decide ((126 : Int) < (b.toNat : Int)) = false := decide_eq_false (by omega)
      by_cases h39 : b.toNat = 39
      ·have t3 : ((b.toNat : Int) == 39) = true := by rw [beq_iff_eq]; omega
       have hf := hbad (by unfold badB; rw [decide_eq_true h39]; simp)
       clear hbad hgood h32 h126 h39
       go_wp2
       go_ret
       exact ⟨by rw [hf.out]; rfl, HK0.out⟩
      ·have t3 : ((b.toNat : Int) == 39) = false := by rw [beq_eq_false_iff_ne]; omega
       have hg := hgood (by unfold badB; rw [decide_eq_false h39, decide_eq_false h126, decide_eq_false h32]; rfl)
       clear hbad hgood h32 h126 h39
       go_wp2
       go_round
       case rel => exact ⟨m + 1, by omega, by go_num, hg⟩
       case measure => simp [intOf]; omega
   ·have hany : s.any badB = false := by
     rw [List.any_eq_false]
     intro x hx
     obtain ⟨j, hj, rfl⟩ := List.getElem_of_mem hx
     rw [hno.out j (by omega) hj]; decide
    have HR2 : Hid (R = if k = 2 then decide (n = 0) && decide (s.length ≤ 16) else false) := Lib.hid (by rw [HR.out, hany]; simp)
    clear hany
    by_cases h2 : k = 2
    ·have t2 : (k == 2) = true := by rw [h2]; rfl
     by_cases h0 : n = 0
     ·have t0 : (n == 0) = true := by rw [h0]; rfl
      have HR3 : Hid (R = decide (s.length ≤ 16)) := Lib.hid (by rw [HR2.out, if_pos h2, decide_eq_true h0, Bool.true_and])
      clear h2 h0
      go_wp2
      go_ret
      exact ⟨by rw [HR3.out]; exact congrArg (fun b => Ending.returned (.bool b)) (decide_eq_decide.2 (by omega)), HK0.out⟩
     ·have t0 : (n == 0) = false := by rw [beq_eq_false_iff_ne]; exact h0
      have HR3 : Hid (R = false) := Lib.hid (by rw [HR2.out, if_pos h2, decide_eq_false h0, Bool.false_and])
      clear h2 h0
      go_wp2
      go_ret
      exact ⟨by rw [HR3.out]; rfl, HK0.out⟩
    ·have t2 : (k == 2) = false := by rw [beq_eq_false_iff_ne]; exact h2
     have HR3 : Hid (R = false) := Lib.hid (by rw [HR2.out, if_neg h2])
     clear h2
     go_wp2
     go_ret
     exact ⟨by rw [HR3.out]; rfl, HK0.out⟩
end Go.Proofs.YtpagiajlefejcaaGreatDoor
