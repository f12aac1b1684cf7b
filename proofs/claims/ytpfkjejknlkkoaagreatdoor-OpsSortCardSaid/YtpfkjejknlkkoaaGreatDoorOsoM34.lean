/- foremankeep.small. slices.Equal over columns and over values, EqualFunc over rows; foremankeep.same. one, at tables whose array has just been made. -/
import Derived.Test.YtpfkjejknlkkoaaGreatDoorOsoM33
import Derived.Test.YtpfkjejknlkkoaaGreatDoorOsoM8
import Derived.Test.YtpfkjejknlkkoaaGreatDoorOsoM29
set_option linter.unusedSimpArgs false
set_option linter.unusedVariables false
namespace Go.Proofs.YtpfkjejknlkkoaaGreatDoor
open Go.RowKit
attribute [local go_sem] bs_size bs_extract bs_append bs_toList
def smallB (t : Tb) : Bool := !(decide (8 < t.cols.length) || decide (65 < t.rows.length) || t.cols.any (fun c => decide (40 < c.name.length))) && !(t.rows.any fun r => decide (8 < r.length) || r.any fun v => decide (40 < v.word.length))
theorem longC_any (c : Cl) (w : World) : Calls Tryz.prog 21 #[cAgg c] w fun e w' => e = .returned (.bool (decide (40 < c.name.length))) ∧ Keeps [] w w' := by
 obtain ⟨s, k⟩ := c
 show Calls _ _ #[.agg #[.string (bs s), .int .i64 k]] w _
 go_enter Tryz.func21, Tryz.ntmps21
 go_wp2
 go_ret
 exact ⟨congrArg (fun b => Ending.returned (.bool b)) (decide_eq_decide.2 (show ((40 : Int) < (s.length : Int)) ↔ 40 < s.length by omega)), (Keeps.refl _ _).alloc _⟩
theorem longV_any (v : Vl) (w : World) : Calls Tryz.prog 25 #[vAgg v] w fun e w' => e = .returned (.bool (decide (40 < v.word.length))) ∧ Keeps [] w w' := by
 obtain ⟨k, n, s⟩ := v
 show Calls _ _ #[.agg #[.int .i64 k, .int .i64 n, .string (bs s)]] w _
 go_enter Tryz.func25, Tryz.ntmps25
 go_wp2
 go_ret
 exact ⟨congrArg (fun b => Ending.returned (.bool b)) (decide_eq_decide.2 (show ((40 : Int) < (s.length : Int)) ↔ 40 < s.length by omega)), (Keeps.refl _ _).alloc _⟩
theorem longR_any (r : List Vl) (A : Option Addr) (c : Nat) (w : World) (hc : r.length ≤ c) (hR : Rd w [] 3 A r.length (vsCells r)) :
  Calls Tryz.prog 23 #[.slice A r.length c] w fun e w' => e = .returned (.bool (decide (8 < r.length) || r.any fun v => decide (40 < v.word.length))) ∧ Keeps [] w w' := by
 by_cases h : 8 < r.length
 ·have h1 : (8 : Int) < (r.length : Int) := by omega
  have HR : Hid ((decide (8 < r.length) || r.any fun v => decide (40 < v.word.length)) = true) := Lib.hid (by rw [decide_eq_true h]; rfl)
  rw [HR.out]
  clear hR h
  go_enter Tryz.func23, Tryz.ntmps23
  go_wp2
  go_ret
  exact ⟨rfl, Keeps.refl _ _⟩
 ·have h1 : ¬ (8 : Int) < (r.length : Int) := by omega
  have HC := Lib.hid (containsFuncV_any 25 #[] (enters_of Tryz.func25 (by kernel_rfl) rfl) (fun v => decide (40 < v.word.length)) r A c w hR (by omega) (fun v _ W _ => longV_any v W))
  rw [decide_eq_false h, Bool.false_or]
  generalize (r.any fun v => decide (40 < v.word.length)) = R at *
  clear hR h
  go_enter Tryz.func23, Tryz.ntmps23
  go_wp2_with (go_at_call 24; refine HC.out.mono ?_; rintro e W2 ⟨rfl, hk2⟩)
  go_ret
  exact ⟨rfl, hk2⟩
set_option maxHeartbeats 2000000 in
theorem small_any (t : Tb) (A B : Option Addr) (c d : Nat) (w : World) (hA : Rd w [] 2 A t.cols.length (csCells t.cols)) (hB : RdRows w [] B t.rows) :
  Calls Tryz.prog 5 #[tAgg A t.cols.length c B t.rows.length d] w fun e w' => e = .returned (.bool (smallB t)) ∧ Keeps [] w w' := by
 show Calls _ _ #[.agg #[.slice A t.cols.length c, .slice B t.rows.length d]] w _
 by_cases h8 : 8 < t.cols.length
 ·have h1 : (8 : Int) < (t.cols.length : Int) := by omega
  have HR : Hid (smallB t = false) := Lib.hid (by unfold smallB; rw [decide_eq_true h8]; rfl)
  clear hA hB h8
  go_enter Tryz.func5, Tryz.ntmps5
  go_wp2
  go_ret
  exact ⟨by rw [HR.out]; rfl, (Keeps.refl _ _).alloc _⟩
 ·have h1 : ¬ (8 : Int) < (t.cols.length : Int) := by omega
  by_cases h65 : 65 < t.rows.length
  ·have h2 : (65 : Int) < (t.rows.length : Int) := by omega
   have HR : Hid (smallB t = false) := Lib.hid (by unfold smallB; rw [decide_eq_true h65, Bool.or_true]; rfl)
   clear hA hB h8 h65
   go_enter Tryz.func5, Tryz.ntmps5
   go_wp2
   go_ret
   exact ⟨by rw [HR.out]; rfl, (Keeps.refl _ _).alloc _⟩
  ·have h2 : ¬ (65 : Int) < (t.rows.length : Int) := by omega
   have HC := Lib.hid (fun W (q : Keeps [] w W) => containsFuncC_any 21 #[] (enters_of Tryz.func21 (by kernel_rfl) rfl) (fun c => decide (40 < c.name.length)) t.cols A c W (hA.keep q) (by omega) (fun v _ W _ => longC_any v W))
   have HD := Lib.hid (fun W (q : Keeps [] w W) => containsFuncR_any 23 #[] (enters_of Tryz.func23 (by kernel_rfl) rfl) (fun r => decide (8 < r.length) || r.any fun v => decide (40 < v.word.length)) t.rows B d W (hB.keep q) (by omega) (fun r _ A c W _ hc hr => longR_any r A c W hc hr))
   have HR : Hid (smallB t = (!(t.cols.any (fun c => decide (40 < c.name.length))) && !(t.rows.any fun r => decide (8 < r.length) || r.any fun v => decide (40 < v.word.length)))) := Lib.hid (by unfold smallB; rw [decide_eq_false h65, decide_eq_false h8]; rfl)
   rw [HR.out]
   generalize (t.rows.any fun r => decide (8 < r.length) || r.any fun v => decide (40 < v.word.length)) = R at *
   generalize (t.cols.any (fun c => decide (40 < c.name.length))) = Q at *
   clear hA hB h8 h65
   cases Q with
   | true =>
    go_enter Tryz.func5, Tryz.ntmps5
    go_wp2_with (go_at_call 20; refine (HC.out _ ((Keeps.refl _ _).alloc _)).mono ?_; rintro e W2 ⟨rfl, hk2⟩)
    go_ret
    exact ⟨rfl, ((Keeps.refl _ _).alloc _).trans hk2⟩
   | false =>
    go_enter Tryz.func5, Tryz.ntmps5
    go_wp2_with (go_at_call 20; refine (HC.out _ ((Keeps.refl _ _).alloc _)).mono ?_; rintro e W2 ⟨rfl, hk2⟩; have q1 := hk2.cell_of (p := ⟨w.heap.size, 1, none⟩) (v := .slice B t.rows.length d) (by simp) (by simp))
    refine (HD.out _ (((Keeps.refl _ _).alloc _).trans hk2)).mono ?_
    rintro e W3 ⟨rfl, hk3⟩
    go_wp2
    go_ret
    exact ⟨rfl, (((Keeps.refl _ _).alloc _).trans hk2).trans hk3⟩
end Go.Proofs.YtpfkjejknlkkoaaGreatDoor
namespace Go.Proofs.YtpfkjejknlkkoaaGreatDoor
open Go.RowKit
attribute [local go_sem] bs_size bs_extract bs_append bs_toList
set_option maxHeartbeats 2000000 in
theorem equalV_any (l m : List Vl) (A B : Option Addr) (c d : Nat) (w : World) (hA : Rd w [] 3 A l.length (vsCells l)) (hB : Rd w [] 3 B m.length (vsCells m)) (hl : l.length ≤ 4294967296) (hm : m.length ≤ 4294967296) :
  Calls Tryz.prog 19 #[.slice A l.length c, .slice B m.length d] w fun e w' => e = .returned (.bool (decide (l = m))) ∧ Keeps [] w w' := by
 have HA := Lib.hid hA
 have HB := Lib.hid hB
 clear hA hB
 by_cases hlen : l.length = m.length
 ·have t1 : ((l.length : Int) != (m.length : Int)) = false := by rw [hlen]; simp
  have t2 : (l.length != m.length) = false := by rw [hlen]; simp
  have HL := Lib.hid hlen
  clear hlen
  go_enter Tryz.func19, Tryz.ntmps19
  go_wp2
  go_loopw [13] (fun i wr => ∃ n : Nat, n ≤ l.length ∧ i = .int .i64 n ∧ Hid (l.take n = m.take n) ∧ Keeps [] w wr) (fun i _ => l.length - (intOf i).toNat)
  case atStart => exact ⟨0, Nat.zero_le _, rfl, by rw [List.take_zero, List.take_zero]; exact rfl, Keeps.refl _ _⟩
  case round =>
   obtain ⟨n, hn, rfl, hno, hk⟩ := hrel
   by_cases hlt : n < l.length
   ·have hlt2 : n < m.length := by rw [← HL.out]; exact hlt
    obtain ⟨b, o, rfl, _, hb, hc⟩ := (HA.out.keep hk).open' (by omega) (by omega)
    obtain ⟨b2, o2, rfl, _, hb2, hc2⟩ := (HB.out.keep hk).open' (by omega) (by omega)
    have d1 := hc (n * 3) _ (vsCells_at l n hlt).1
    have d2 := hc (n * 3 + 1) _ (vsCells_at l n hlt).2.1
    have d3 := hc (n * 3 + 2) _ (vsCells_at l n hlt).2.2
    have e1 := hc2 (n * 3) _ (vsCells_at m n hlt2).1
    have e2 := hc2 (n * 3 + 1) _ (vsCells_at m n hlt2).2.1
    have e3 := hc2 (n * 3 + 2) _ (vsCells_at m n hlt2).2.2
    rw [← Nat.add_assoc] at d2 d3 e2 e3
    have hi0 : (0 : Int) ≤ (n : Int) := by omega
    have hi1 : (n : Int) < (l.length : Int) := by omega
    have hi2 : (n : Int) < (m.length : Int) := by omega
    have hst : l.take (n + 1) = l.take n ++ [l[n]] := List.take_succ_eq_append_getElem hlt
    have hst2 : m.take (n + 1) = m.take n ++ [m[n]] := List.take_succ_eq_append_getElem hlt2
    have hdif : l[n] ≠ m[n] → decide (l = m) = false := fun h => by
     rw [decide_eq_false_iff_not]
     rintro rfl
     exact h rfl
    have hq := vNeq l[n] m[n]
    generalize l[n] = x at *
    generalize m[n] = y at *
    clear hc hc2
    by_cases hxy : x = y
    ·have hno' : Hid (l.take (n + 1) = m.take (n + 1)) := Lib.hid (by rw [hst, hst2, hno.out, hxy])
     rw [decide_eq_true hxy] at hq
     clear hst hst2 hdif hxy
     go_wp2_with fail
     go_quiet (fail)
     go_wp2
     go_roundw
     case rel => exact ⟨n + 1, by omega, by go_num, hno', hk.drewN _⟩
     case measure => simp [intOf]; omega
    ·have HD := Lib.hid (hdif hxy)
     rw [decide_eq_false hxy] at hq
     clear hst hst2 hdif hxy
     go_wp2_with fail
     go_quiet (fail)
     go_wp2
     go_ret
     exact ⟨by rw [HD.out]; rfl, hk.drewN _⟩
   ·have hfin : Hid (decide (l = m) = true) := Lib.hid (by
     have h := hno.out
     rw [List.take_of_length_le (by omega), List.take_of_length_le (by rw [← HL.out]; omega)] at h
     exact decide_eq_true h)
    go_wp2
    go_ret
    exact ⟨by rw [hfin.out]; rfl, hk⟩
 ·have t1 : ((l.length : Int) != (m.length : Int)) = true := by rw [bne_iff_ne]; omega
  have t2 : (l.length != m.length) = true := by rw [bne_iff_ne]; exact hlen
  have HD : Hid (decide (l = m) = false) := Lib.hid (by rw [decide_eq_false_iff_not]; rintro rfl; exact hlen rfl)
  clear hlen
  go_enter Tryz.func19, Tryz.ntmps19
  go_wp2
  go_ret
  exact ⟨by rw [HD.out]; rfl, Keeps.refl _ _⟩
theorem sameRow_any (l m : List Vl) (A B : Option Addr) (c d : Nat) (w : World) (hA : Rd w [] 3 A l.length (vsCells l)) (hB : Rd w [] 3 B m.length (vsCells m)) (hl : l.length ≤ 4294967296) (hm : m.length ≤ 4294967296) :
  Calls Tryz.prog 33 #[.slice A l.length c, .slice B m.length d] w fun e w' => e = .returned (.bool (decide (l = m))) ∧ Keeps [] w w' := by
 have HC := Lib.hid (equalV_any l m A B c d w hA hB hl hm)
 clear hA hB
 generalize decide (l = m) = R at *
 go_enter Tryz.func33, Tryz.ntmps33
 go_wp2_with (go_at_call 19; refine HC.out.mono ?_; rintro e W2 ⟨rfl, hk2⟩)
 go_ret
 exact ⟨rfl, hk2⟩
set_option maxHeartbeats 2000000 in
theorem equalRows_any (l m : List (List Vl)) (A B : Option Addr) (c d : Nat) (w : World) (hA : RdRows w [] A l) (hB : RdRows w [] B m) (hl : l.length ≤ 4294967296) (hm : m.length ≤ 4294967296) (hlr : ∀ r ∈ l, r.length ≤ 4294967296) (hmr : ∀ r ∈ m, r.length ≤ 4294967296) :
  Calls Tryz.prog 32 #[.slice A l.length c, .slice B m.length d, .func (.func 33) #[] #[]] w fun e w' => e = .returned (.bool (decide (l = m))) ∧ Keeps [] w w' := by
 have HA := Lib.hid hA
 have HB := Lib.hid hB
 have HLR := Lib.hid hlr
 have HMR := Lib.hid hmr
 clear hA hB hlr hmr
 by_cases hlen : l.length = m.length
 ·have t1 : ((l.length : Int) != (m.length : Int)) = false := by rw [hlen]; simp
  have t2 : (l.length != m.length) = false := by rw [hlen]; simp
  have HL := Lib.hid hlen
  clear hlen
  go_enter Tryz.func32, Tryz.ntmps32
  go_wp2
  go_loopw [17] (fun i wr => ∃ n : Nat, n ≤ l.length ∧ i = .int .i64 n ∧ Hid (l.take n = m.take n) ∧ Keeps [] w wr) (fun i _ => l.length - (intOf i).toNat)
  case atStart => exact ⟨0, Nat.zero_le _, rfl, by rw [List.take_zero, List.take_zero]; exact rfl, Keeps.refl _ _⟩
  case round =>
   obtain ⟨n, hn, rfl, hno, hk⟩ := hrel
   by_cases hlt : n < l.length
   ·have hlt2 : n < m.length := by rw [← HL.out]; exact hlt
    obtain ⟨us, hul, hu1, hu2⟩ := HA.out.keep hk
    obtain ⟨b, o, rfl, _, hb, hc⟩ := hu1.open' (by omega) (by omega)
    obtain ⟨us2, hul2, hv1, hv2⟩ := HB.out.keep hk
    obtain ⟨b2, o2, rfl, _, hb2, hc2⟩ := hv1.open' (by omega) (by omega)
    have d1 := hc n _ (List.getElem?_eq_getElem (by omega))
    have e1 := hc2 n _ (List.getElem?_eq_getElem (by omega))
    obtain ⟨Ar, cr, hue, hcr, hRr⟩ := hu2 n (by omega) hlt
    obtain ⟨Br, dr, hve, hdr, hSr⟩ := hv2 n (by omega) hlt2
    rw [hue] at d1
    rw [hve] at e1
    have HH := Lib.hid (sameRow_any l[n] m[n] Ar Br cr dr wr hRr hSr (HLR.out _ (List.getElem_mem hlt)) (HMR.out _ (List.getElem_mem hlt2)))
    have hi2 : (n : Int) < (m.length : Int) := by omega
    have hst : l.take (n + 1) = l.take n ++ [l[n]] := List.take_succ_eq_append_getElem hlt
    have hst2 : m.take (n + 1) = m.take n ++ [m[n]] := List.take_succ_eq_append_getElem hlt2
    have hdif : l[n] ≠ m[n] → decide (l = m) = false := fun h => by
     rw [decide_eq_false_iff_not]
     rintro rfl
     exact h rfl
    clear hue hve hcr hdr hRr hSr hu1 hu2 hv1 hv2 hc hc2
    generalize l[n] = x at *
    generalize m[n] = y at *
    by_cases hxy : x = y
    ·have hno' : Hid (l.take (n + 1) = m.take (n + 1)) := Lib.hid (by rw [hst, hst2, hno.out, hxy])
     rw [decide_eq_true hxy] at HH
     clear hst hst2 hdif hxy
     go_wp2_with fail
     refine HH.out.mono ?_
     rintro e W2 ⟨rfl, hk2⟩
     go_wp2
     go_roundw
     case rel => exact ⟨n + 1, by omega, by go_num, hno', hk.trans hk2⟩
     case measure => simp [intOf]; omega
    ·have HD := Lib.hid (hdif hxy)
     rw [decide_eq_false hxy] at HH
     clear hst hst2 hdif hxy
     go_wp2_with fail
     refine HH.out.mono ?_
     rintro e W2 ⟨rfl, hk2⟩
     go_wp2
     go_ret
     exact ⟨by rw [HD.out]; rfl, hk.trans hk2⟩
   ·have hfin : Hid (decide (l = m) = true) := Lib.hid (by
     have h := hno.out
     rw [List.take_of_length_le (by omega), List.take_of_length_le (by rw [← HL.out]; omega)] at h
     exact decide_eq_true h)
    go_wp2
    go_ret
    exact ⟨by rw [hfin.out]; rfl, hk⟩
 ·have t1 : ((l.length : Int) != (m.length : Int)) = true := by rw [bne_iff_ne]; omega
  have t2 : (l.length != m.length) = true := by rw [bne_iff_ne]; exact hlen
  have HD : Hid (decide (l = m) = false) := Lib.hid (by rw [decide_eq_false_iff_not]; rintro rfl; exact hlen rfl)
  clear hlen
  go_enter Tryz.func32, Tryz.ntmps32
  go_wp2
  go_ret
  exact ⟨by rw [HD.out]; rfl, Keeps.refl _ _⟩
structure TabRd (w : World) (t : Tb) (A B : Option Addr) : Prop where
 cols : Rd w [] 2 A t.cols.length (csCells t.cols)
 rows : RdRows w [] B t.rows
 ln : t.cols.length ≤ 4294967296
 lm : t.rows.length ≤ 4294967296
 lr : ∀ r ∈ t.rows, r.length ≤ 4294967296
theorem TabRd.quiet {w w' : World} {t : Tb} {A B : Option Addr} (h : TabRd w t A B) (hk : Keeps [] w w') : TabRd w' t A B := ⟨h.cols.keep hk, h.rows.keep hk, h.ln, h.lm, h.lr⟩
set_option maxHeartbeats 2000000 in
theorem same_any (t u : Tb) (A B A2 B2 : Option Addr) (c d c2 d2 : Nat) (w : World) (hT : TabRd w t A B) (hU : TabRd w u A2 B2) :
  Calls Tryz.prog 16 #[tAgg A t.cols.length c B t.rows.length d, tAgg A2 u.cols.length c2 B2 u.rows.length d2] w fun e w' => e = .returned (.bool (decide (t = u))) ∧ Keeps [] w w' := by
 show Calls _ _ #[.agg #[.slice A t.cols.length c, .slice B t.rows.length d], .agg #[.slice A2 u.cols.length c2, .slice B2 u.rows.length d2]] w _
 have hd : decide (t = u) = (decide (t.cols = u.cols) && decide (t.rows = u.rows)) := by
  obtain ⟨a, b⟩ := t
  obtain ⟨a2, b2⟩ := u
  rw [Bool.eq_iff_iff]
  simp
 rw [hd]
 have hc := fun W (q : Keeps [] w W) => equalC_any t.cols u.cols A A2 c c2 W (hT.quiet q).cols (hU.quiet q).cols hT.ln hU.ln
 have hr := fun W (q : Keeps [] w W) => equalRows_any t.rows u.rows B B2 d d2 W (hT.quiet q).rows (hU.quiet q).rows hT.lm hU.lm hT.lr hU.lr
 have HC := Lib.hid hc
 have HR := Lib.hid hr
 clear hc hr hd
 generalize decide (t.cols = u.cols) = P at *
 generalize decide (t.rows = u.rows) = Q at *
 cases P with
 | false =>
  go_enter Tryz.func16, Tryz.ntmps16
  go_wp2_with (go_at_call 31; refine (HC.out _ (((Keeps.refl _ _).alloc _).alloc _)).mono ?_; rintro e W2 ⟨rfl, hk2⟩)
  go_ret
  exact ⟨rfl, (((Keeps.refl _ _).alloc _).alloc _).trans hk2⟩
 | true =>
  go_enter Tryz.func16, Tryz.ntmps16
  go_wp2_with (go_at_call 31; refine (HC.out _ (((Keeps.refl _ _).alloc _).alloc _)).mono ?_; rintro e W2 ⟨rfl, hk2⟩; have q1 := hk2.cell_of (p := ⟨w.heap.size, 1, none⟩) (v := .slice B t.rows.length d) (by simp) (by simp); have q2 := hk2.cell_of (p := ⟨w.heap.size + 1, 1, none⟩) (v := .slice B2 u.rows.length d2) (by simp) (by simp))
  refine (HR.out _ ((((Keeps.refl _ _).alloc _).alloc _).trans hk2)).mono ?_
  rintro e W3 ⟨rfl, hk3⟩
  go_wp2
  go_ret
  exact ⟨rfl, ((((Keeps.refl _ _).alloc _).alloc _).trans hk2).trans hk3⟩
end Go.Proofs.YtpfkjejknlkkoaaGreatDoor
namespace Go.Proofs.YtpfkjejknlkkoaaGreatDoor
open Go.RowKit
attribute [local go_sem] bs_size bs_extract bs_append bs_toList
theorem TabIn.of_is {w : World} {t : Tb} {A B : Option Addr} {c d : Nat} (h : TbIs w (.slice A t.cols.length c, .slice B t.rows.length d) t) (hb : TbB t) : TabIn w t A B c d := by
 obtain ⟨⟨A1, c1, e1, h1, h2⟩, ⟨B1, d1, e2, h3, h4⟩⟩ := h
 injection e1 with e1 _ e1c
 injection e2 with e2 _ e2c
 subst e1 e2 e1c e2c
 exact ⟨h2, h1, h4, h3, hb.names, hb.ln, hb.lm, hb.lr⟩
theorem TabIn.rd {w : World} {t : Tb} {A B : Option Addr} {c d : Nat} (h : TabIn w t A B c d) : TabRd w t A B := ⟨h.cols, h.rows, h.ln, h.lm, h.lr⟩
theorem TbB.of_right' {t : Tb} (h : rightB t = true) : TbB t := by
 obtain ⟨h1, h2, h3, _⟩ := rightB_of h
 refine ⟨fun x hx => ?_, by omega, by omega, fun r hr => by rw [row_len h r hr]; omega⟩
 obtain ⟨k, hk, rfl⟩ := List.getElem_of_mem hx
 have := nameB_len (okCol_of h1 hk).1
 omega
end Go.Proofs.YtpfkjejknlkkoaaGreatDoor
