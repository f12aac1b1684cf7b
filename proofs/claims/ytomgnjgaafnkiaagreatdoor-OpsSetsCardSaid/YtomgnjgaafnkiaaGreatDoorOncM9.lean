/- slices.Equal over columns and over values, EqualFunc over rows; foremankeep.same. ops.Cols, of every code but Join's; Group's by a contract given. ops.Cols: Distinct, Union, what fails; all together. -/
import Derived.Test.YtomgnjgaafnkiaaGreatDoorOncM8
import Derived.Test.YtomgnjgaafnkiaaGreatDoorOncM4
import Derived.Test.YtomgnjgaafnkiaaGreatDoorOncM7
namespace Go.Proofs.YtomgnjgaafnkiaaGreatDoor
open Go.RowKit
attribute [local go_sem] bs_size bs_extract bs_append bs_toList
set_option maxHeartbeats 2000000 in
theorem equalC_any (l m : List Cl) (A B : Option Addr) (c d : Nat) (w : World) (hA : Rd w [] 2 A l.length (csCells l)) (hB : Rd w [] 2 B m.length (csCells m)) (hl : l.length ≤ 4294967296) (hm : m.length ≤ 4294967296) :
    Calls Tryz.prog 45 #[.slice A l.length c, .slice B m.length d] w fun e w' => e = .returned (.bool (decide (l = m))) ∧ Keeps [] w w' := by
  have HA := Lib.hid hA
  have HB := Lib.hid hB
  clear hA hB
  by_cases hlen : l.length = m.length
  · have t1 : ((l.length : Int) != (m.length : Int)) = false := by rw [hlen]; simp
    have t2 : (l.length != m.length) = false := by rw [hlen]; simp
    have HL := Lib.hid hlen
    clear hlen
    go_enter Tryz.func45, Tryz.ntmps45
    go_wp2
    go_loopw [13] (fun i wr => ∃ n : Nat, n ≤ l.length ∧ i = .int .i64 n ∧ Hid (l.take n = m.take n) ∧ Keeps [] w wr) (fun i _ => l.length - (intOf i).toNat)
    case atStart => exact ⟨0, Nat.zero_le _, rfl, by rw [List.take_zero, List.take_zero]; exact rfl, Keeps.refl _ _⟩
    case round =>
      obtain ⟨n, hn, rfl, hno, hk⟩ := hrel
      by_cases hlt : n < l.length
      · have hlt2 : n < m.length := by rw [← HL.out]; exact hlt
        obtain ⟨b, o, rfl, _, hb, hc⟩ := (HA.out.keep hk).open' (by omega) (by omega)
        obtain ⟨b2, o2, rfl, _, hb2, hc2⟩ := (HB.out.keep hk).open' (by omega) (by omega)
        have d1 := hc (n * 2) _ (csCells_at l n hlt).1
        have d2 := hc (n * 2 + 1) _ (csCells_at l n hlt).2
        have e1 := hc2 (n * 2) _ (csCells_at m n hlt2).1
        have e2 := hc2 (n * 2 + 1) _ (csCells_at m n hlt2).2
        rw [← Nat.add_assoc] at d2 e2
        have hi0 : (0 : Int) ≤ (n : Int) := by omega
        have hi1 : (n : Int) < (l.length : Int) := by omega
        have hi2 : (n : Int) < (m.length : Int) := by omega
        have hst : l.take (n + 1) = l.take n ++ [l[n]] := List.take_succ_eq_append_getElem hlt
        have hst2 : m.take (n + 1) = m.take n ++ [m[n]] := List.take_succ_eq_append_getElem hlt2
        have hdif : l[n] ≠ m[n] → decide (l = m) = false := fun h => by
          rw [decide_eq_false_iff_not]
          rintro rfl
          exact h rfl
        have hq := cNeq l[n] m[n]
        generalize l[n] = x at *
        generalize m[n] = y at *
        clear hc hc2
        by_cases hxy : x = y
        · have hno' : Hid (l.take (n + 1) = m.take (n + 1)) := Lib.hid (by rw [hst, hst2, hno.out, hxy])
          rw [decide_eq_true hxy] at hq
          clear hst hst2 hdif hxy
          go_wp2_with fail
          go_quiet (fail)
          go_wp2
          go_roundw
          case rel => exact ⟨n + 1, by omega, by go_num, hno', hk.drewN _⟩
          case measure => simp [intOf]; omega
        · have HD := Lib.hid (hdif hxy)
          rw [decide_eq_false hxy] at hq
          clear hst hst2 hdif hxy
          go_wp2_with fail
          go_quiet (fail)
          go_wp2
          go_ret
          exact ⟨by rw [HD.out]; rfl, hk.drewN _⟩
      · have hfin : Hid (decide (l = m) = true) := Lib.hid (by
          have h := hno.out
          rw [List.take_of_length_le (by omega), List.take_of_length_le (by rw [← HL.out]; omega)] at h
          exact decide_eq_true h)
        go_wp2
        go_ret
        exact ⟨by rw [hfin.out]; rfl, hk⟩
  · have t1 : ((l.length : Int) != (m.length : Int)) = true := by rw [bne_iff_ne]; omega
    have t2 : (l.length != m.length) = true := by rw [bne_iff_ne]; exact hlen
    have HD : Hid (decide (l = m) = false) := Lib.hid (by rw [decide_eq_false_iff_not]; rintro rfl; exact hlen rfl)
    clear hlen
    go_enter Tryz.func45, Tryz.ntmps45
    go_wp2
    go_ret
    exact ⟨by rw [HD.out]; rfl, Keeps.refl _ _⟩
set_option maxHeartbeats 2000000 in
theorem equalV_any (l m : List Vl) (A B : Option Addr) (c d : Nat) (w : World) (hA : Rd w [] 3 A l.length (vsCells l)) (hB : Rd w [] 3 B m.length (vsCells m)) (hl : l.length ≤ 4294967296) (hm : m.length ≤ 4294967296) :
    Calls Tryz.prog 24 #[.slice A l.length c, .slice B m.length d] w fun e w' => e = .returned (.bool (decide (l = m))) ∧ Keeps [] w w' := by
  have HA := Lib.hid hA
  have HB := Lib.hid hB
  clear hA hB
  by_cases hlen : l.length = m.length
  · have t1 : ((l.length : Int) != (m.length : Int)) = false := by rw [hlen]; simp
    have t2 : (l.length != m.length) = false := by rw [hlen]; simp
    have HL := Lib.hid hlen
    clear hlen
    go_enter Tryz.func24, Tryz.ntmps24
    go_wp2
    go_loopw [13] (fun i wr => ∃ n : Nat, n ≤ l.length ∧ i = .int .i64 n ∧ Hid (l.take n = m.take n) ∧ Keeps [] w wr) (fun i _ => l.length - (intOf i).toNat)
    case atStart => exact ⟨0, Nat.zero_le _, rfl, by rw [List.take_zero, List.take_zero]; exact rfl, Keeps.refl _ _⟩
    case round =>
      obtain ⟨n, hn, rfl, hno, hk⟩ := hrel
      by_cases hlt : n < l.length
      · have hlt2 : n < m.length := by rw [← HL.out]; exact hlt
        obtain ⟨b, o, rfl, _, hb, hc⟩ := (HA.out.keep hk).open' (by omega) (by omega)
        obtain ⟨b2, o2, rfl, _, hb2, hc2⟩ := (HB.out.keep hk).open' (by omega) (by omega)
        have d1 := hc (n * 3) _ (vsCells_at l n hlt).1
        have d2 := hc (n * 3 + 1) _ (vsCells_at l n hlt).2.1
        have d3 := hc (n * 3 + 2) _ (vsCells_at l n hlt).2.2
        have e1 := hc2 (n * 3) _ (vsCells_at m n hlt2).1
        have e2 := hc2 (n * 3 + 1) _ (vsCells_at m n hlt2).2.1
        have e3 := hc2 (n * 3 + 2) _ (vsCells_at m n hlt2).2.2
        rw [← Nat.add_assoc] at d2 d3 e2 e3
        have hi0 : (0 : Int) ≤ (n : Int) := by omega
        have hi1 : (n : Int) < (l.length : Int) := by omega
        have hi2 : (n : Int) < (m.length : Int) := by omega
        have hst : l.take (n + 1) = l.take n ++ [l[n]] := List.take_succ_eq_append_getElem hlt
        have hst2 : m.take (n + 1) = m.take n ++ [m[n]] := List.take_succ_eq_append_getElem hlt2
        have hdif : l[n] ≠ m[n] → decide (l = m) = false := fun h => by
          rw [decide_eq_false_iff_not]
          rintro rfl
          exact h rfl
        have hq := vNeq l[n] m[n]
        generalize l[n] = x at *
        generalize m[n] = y at *
        clear hc hc2
        by_cases hxy : x = y
        · have hno' : Hid (l.take (n + 1) = m.take (n + 1)) := Lib.hid (by rw [hst, hst2, hno.out, hxy])
          rw [decide_eq_true hxy] at hq
          clear hst hst2 hdif hxy
          go_wp2_with fail
          go_quiet (fail)
          go_wp2
          go_roundw
          case rel => exact ⟨n + 1, by omega, by go_num, hno', hk.drewN _⟩
          case measure => simp [intOf]; omega
        · have HD := Lib.hid (hdif hxy)
          rw [decide_eq_false hxy] at hq
          clear hst hst2 hdif hxy
          go_wp2_with fail
          go_quiet (fail)
          go_wp2
          go_ret
          exact ⟨by rw [HD.out]; rfl, hk.drewN _⟩
      · have hfin : Hid (decide (l = m) = true) := Lib.hid (by
          have h := hno.out
          rw [List.take_of_length_le (by omega), List.take_of_length_le (by rw [← HL.out]; omega)] at h
          exact decide_eq_true h)
        go_wp2
        go_ret
        exact ⟨by rw [hfin.out]; rfl, hk⟩
  · have t1 : ((l.length : Int) != (m.length : Int)) = true := by rw [bne_iff_ne]; omega
    have t2 : (l.length != m.length) = true := by rw [bne_iff_ne]; exact hlen
    have HD : Hid (decide (l = m) = false) := Lib.hid (by rw [decide_eq_false_iff_not]; rintro rfl; exact hlen rfl)
    clear hlen
    go_enter Tryz.func24, Tryz.ntmps24
    go_wp2
    go_ret
    exact ⟨by rw [HD.out]; rfl, Keeps.refl _ _⟩
theorem sameRow_any (l m : List Vl) (A B : Option Addr) (c d : Nat) (w : World) (hA : Rd w [] 3 A l.length (vsCells l)) (hB : Rd w [] 3 B m.length (vsCells m)) (hl : l.length ≤ 4294967296) (hm : m.length ≤ 4294967296) :
    Calls Tryz.prog 47 #[.slice A l.length c, .slice B m.length d] w fun e w' => e = .returned (.bool (decide (l = m))) ∧ Keeps [] w w' := by
  have HC := Lib.hid (equalV_any l m A B c d w hA hB hl hm)
  clear hA hB
  generalize decide (l = m) = R at *
  go_enter Tryz.func47, Tryz.ntmps47
  go_wp2_with (go_at_call 24; refine HC.out.mono ?_; rintro e W2 ⟨rfl, hk2⟩)
  go_ret
  exact ⟨rfl, hk2⟩
set_option maxHeartbeats 2000000 in
theorem equalRows_any (l m : List (List Vl)) (A B : Option Addr) (c d : Nat) (w : World) (hA : RdRows w [] A l) (hB : RdRows w [] B m) (hl : l.length ≤ 4294967296) (hm : m.length ≤ 4294967296) (hlr : ∀ r ∈ l, r.length ≤ 4294967296) (hmr : ∀ r ∈ m, r.length ≤ 4294967296) :
    Calls Tryz.prog 46 #[.slice A l.length c, .slice B m.length d, .func (.func 47) #[] #[]] w fun e w' => e = .returned (.bool (decide (l = m))) ∧ Keeps [] w w' := by
  have HA := Lib.hid hA
  have HB := Lib.hid hB
  have HLR := Lib.hid hlr
  have HMR := Lib.hid hmr
  clear hA hB hlr hmr
  by_cases hlen : l.length = m.length
  · have t1 : ((l.length : Int) != (m.length : Int)) = false := by rw [hlen]; simp
    have t2 : (l.length != m.length) = false := by rw [hlen]; simp
    have HL := Lib.hid hlen
    clear hlen
    go_enter Tryz.func46, Tryz.ntmps46
    go_wp2
    go_loopw [17] (fun i wr => ∃ n : Nat, n ≤ l.length ∧ i = .int .i64 n ∧ Hid (l.take n = m.take n) ∧ Keeps [] w wr) (fun i _ => l.length - (intOf i).toNat)
    case atStart => exact ⟨0, Nat.zero_le _, rfl, by rw [List.take_zero, List.take_zero]; exact rfl, Keeps.refl _ _⟩
    case round =>
      obtain ⟨n, hn, rfl, hno, hk⟩ := hrel
      by_cases hlt : n < l.length
      · have hlt2 : n < m.length := by rw [← HL.out]; exact hlt
        obtain ⟨us, hul, hu1, hu2⟩ := HA.out.keep hk
        obtain ⟨b, o, rfl, _, hb, hc⟩ := hu1.open' (by omega) (by omega)
        obtain ⟨us2, hul2, hv1, hv2⟩ := HB.out.keep hk
        obtain ⟨b2, o2, rfl, _, hb2, hc2⟩ := hv1.open' (by omega) (by omega)
        have d1 := hc n _ (List.getElem?_eq_getElem (by omega))
        have e1 := hc2 n _ (List.getElem?_eq_getElem (by omega))
        obtain ⟨Ar, cr, hue, hcr, hRr⟩ := hu2 n (by omega) hlt
        obtain ⟨Br, dr, hve, hdr, hSr⟩ := hv2 n (by omega) hlt2
        rw [hue] at d1
        rw [hve] at e1
        have HH := Lib.hid (sameRow_any l[n] m[n] Ar Br cr dr wr hRr hSr (HLR.out _ (List.getElem_mem hlt)) (HMR.out _ (List.getElem_mem hlt2)))
        have hi2 : (n : Int) < (m.length : Int) := by omega
        have hst : l.take (n + 1) = l.take n ++ [l[n]] := List.take_succ_eq_append_getElem hlt
        have hst2 : m.take (n + 1) = m.take n ++ [m[n]] := List.take_succ_eq_append_getElem hlt2
        have hdif : l[n] ≠ m[n] → decide (l = m) = false := fun h => by
          rw [decide_eq_false_iff_not]
          rintro rfl
          exact h rfl
        clear hue hve hcr hdr hRr hSr hu1 hu2 hv1 hv2 hc hc2
        generalize l[n] = x at *
        generalize m[n] = y at *
        by_cases hxy : x = y
        · have hno' : Hid (l.take (n + 1) = m.take (n + 1)) := Lib.hid (by rw [hst, hst2, hno.out, hxy])
          rw [decide_eq_true hxy] at HH
          clear hst hst2 hdif hxy
          go_wp2_with fail
          refine HH.out.mono ?_
          rintro e W2 ⟨rfl, hk2⟩
          go_wp2
          go_roundw
          case rel => exact ⟨n + 1, by omega, by go_num, hno', hk.trans hk2⟩
          case measure => simp [intOf]; omega
        · have HD := Lib.hid (hdif hxy)
          rw [decide_eq_false hxy] at HH
          clear hst hst2 hdif hxy
          go_wp2_with fail
          refine HH.out.mono ?_
          rintro e W2 ⟨rfl, hk2⟩
          go_wp2
          go_ret
          exact ⟨by rw [HD.out]; rfl, hk.trans hk2⟩
      · have hfin : Hid (decide (l = m) = true) := Lib.hid (by
          have h := hno.out
          rw [List.take_of_length_le (by omega), List.take_of_length_le (by rw [← HL.out]; omega)] at h
          exact decide_eq_true h)
        go_wp2
        go_ret
        exact ⟨by rw [hfin.out]; rfl, hk⟩
  · have t1 : ((l.length : Int) != (m.length : Int)) = true := by rw [bne_iff_ne]; omega
    have t2 : (l.length != m.length) = true := by rw [bne_iff_ne]; exact hlen
    have HD : Hid (decide (l = m) = false) := Lib.hid (by rw [decide_eq_false_iff_not]; rintro rfl; exact hlen rfl)
    clear hlen
    go_enter Tryz.func46, Tryz.ntmps46
    go_wp2
    go_ret
    exact ⟨by rw [HD.out]; rfl, Keeps.refl _ _⟩
/-- A table that is read: columns and rows, whatever they are. -/
structure TabRd (w : World) (t : Tb) (A B : Option Addr) : Prop where
  cols : Rd w [] 2 A t.cols.length (csCells t.cols)
  rows : RdRows w [] B t.rows
  ln : t.cols.length ≤ 4294967296
  lm : t.rows.length ≤ 4294967296
  lr : ∀ r ∈ t.rows, r.length ≤ 4294967296
theorem TabRd.quiet {w w' : World} {t : Tb} {A B : Option Addr} (h : TabRd w t A B) (hk : Keeps [] w w') : TabRd w' t A B := ⟨h.cols.keep hk, h.rows.keep hk, h.ln, h.lm, h.lr⟩
set_option maxHeartbeats 2000000 in
theorem same_any (t u : Tb) (A B A2 B2 : Option Addr) (c d c2 d2 : Nat) (w : World) (hT : TabRd w t A B) (hU : TabRd w u A2 B2) :
    Calls Tryz.prog 19 #[tAgg A t.cols.length c B t.rows.length d, tAgg A2 u.cols.length c2 B2 u.rows.length d2] w fun e w' => e = .returned (.bool (decide (t = u))) ∧ Keeps [] w w' := by
  show Calls _ _ #[.agg #[.slice A t.cols.length c, .slice B t.rows.length d], .agg #[.slice A2 u.cols.length c2, .slice B2 u.rows.length d2]] w _
  have hd : decide (t = u) = (decide (t.cols = u.cols) && decide (t.rows = u.rows)) := by
    obtain ⟨a, b⟩ := t
    obtain ⟨a2, b2⟩ := u
    rw [Bool.eq_iff_iff]
    simp
  rw [hd]
  have hc := fun W (q : Keeps [] w W) => equalC_any t.cols u.cols A A2 c c2 W (hT.quiet q).cols (hU.quiet q).cols hT.ln hU.ln
  have hr := fun W (q : Keeps [] w W) => equalRows_any t.rows u.rows B B2 d d2 W (hT.quiet q).rows (hU.quiet q).rows hT.lm hU.lm hT.lr hU.lr
  have HC := Lib.hid hc
  have HR := Lib.hid hr
  clear hc hr hd
  generalize decide (t.cols = u.cols) = P at *
  generalize decide (t.rows = u.rows) = Q at *
  cases P with
  | false =>
    go_enter Tryz.func19, Tryz.ntmps19
    go_wp2_with (go_at_call 45; refine (HC.out _ (((Keeps.refl _ _).alloc _).alloc _)).mono ?_; rintro e W2 ⟨rfl, hk2⟩)
    go_ret
    exact ⟨rfl, (((Keeps.refl _ _).alloc _).alloc _).trans hk2⟩
  | true =>
    go_enter Tryz.func19, Tryz.ntmps19
    go_wp2_with (go_at_call 45; refine (HC.out _ (((Keeps.refl _ _).alloc _).alloc _)).mono ?_; rintro e W2 ⟨rfl, hk2⟩; have q1 := hk2.cell_of (p := ⟨w.heap.size, 1, none⟩) (v := .slice B t.rows.length d) (by simp) (by simp); have q2 := hk2.cell_of (p := ⟨w.heap.size + 1, 1, none⟩) (v := .slice B2 u.rows.length d2) (by simp) (by simp))
    refine (HR.out _ ((((Keeps.refl _ _).alloc _).alloc _).trans hk2)).mono ?_
    rintro e W3 ⟨rfl, hk3⟩
    go_wp2
    go_ret
    exact ⟨rfl, ((((Keeps.refl _ _).alloc _).alloc _).trans hk2).trans hk3⟩
end Go.Proofs.YtomgnjgaafnkiaaGreatDoor
namespace Go.Proofs.YtomgnjgaafnkiaaGreatDoor
open Go.RowKit Go.BigFrame
attribute [local go_sem] bs_size bs_extract bs_append bs_toList
attribute [local go_sem] KW.cell
theorem ColsOut.split {R : Except Int (List (List Cl))} {e : Ending} {w : World} (h : ColsOut R e w) : ∃ u v, e = .returned (.tuple #[u, v]) ∧ ColsOut R (.returned (.tuple #[u, v])) w := by
  cases R with
  | error x => exact ⟨_, _, h, rfl⟩
  | ok out =>
    obtain ⟨B, d, rfl, h1, h2⟩ := h
    exact ⟨_, _, rfl, B, d, rfl, h1, h2⟩
/-- The first head. -/
theorem RdHeads.first {w : World} {A : Option Addr} {ls : List (List Cl)} (h : RdHeads w A ls) (h0 : 0 < ls.length) (hl : ls.length ≤ 4294967296) : ∃ b o B d, A = some ⟨b, o, none⟩ ∧ b < w.heap.size ∧ w.cell? ⟨b, o, none⟩ = some (.slice B (ls.getD 0 []).length d) ∧ (ls.getD 0 []).length ≤ d ∧ Rd w [] 2 B (ls.getD 0 []).length (csCells (ls.getD 0 [])) := by
  obtain ⟨us, h1, h2, h3⟩ := h
  obtain ⟨b, o, rfl, _, hb, hc⟩ := h2.open' (by omega) (by omega)
  obtain ⟨B, d, hu, hd, hB⟩ := h3 0 (by omega) h0
  have hg : ls.getD 0 [] = ls[0] := by rw [List.getD_eq_getElem?_getD, List.getElem?_eq_getElem h0]; rfl
  refine ⟨b, o, B, d, rfl, hb, ?_, by rw [hg]; exact hd, by rw [hg]; exact hB⟩
  rw [hg, ← hu]
  exact hc 0 _ (List.getElem?_eq_getElem (by omega))
theorem RdHeads.second {w : World} {b o : Nat} {ls : List (List Cl)} (h : RdHeads w (some ⟨b, o, none⟩) ls) (h0 : 1 < ls.length) (hl : ls.length ≤ 4294967296) : ∃ B d, w.cell? ⟨b, o + 1, none⟩ = some (.slice B (ls.getD 1 []).length d) ∧ (ls.getD 1 []).length ≤ d ∧ Rd w [] 2 B (ls.getD 1 []).length (csCells (ls.getD 1 [])) := by
  obtain ⟨us, h1, h2, h3⟩ := h
  obtain ⟨b2, o2, he, _, hb, hc⟩ := h2.open' (by omega) (by omega)
  cases he
  obtain ⟨B, d, hu, hd, hB⟩ := h3 1 (by omega) h0
  have hg : ls.getD 1 [] = ls[1] := by rw [List.getD_eq_getElem?_getD, List.getElem?_eq_getElem h0]; rfl
  refine ⟨B, d, ?_, by rw [hg]; exact hd, by rw [hg]; exact hB⟩
  rw [hg, ← hu]
  exact hc 1 _ (List.getElem?_eq_getElem (by omega))
set_option maxHeartbeats 4000000 in
theorem cols_1 (at_ retry lk ln rk rn : Int) (outs js cols : List Bs) (op lc lw rc rw' : Bs) (Ao : Option Addr) (co : Nat) (Ai : Option Addr) (ni ci : Nat) (Ac : Option Addr) (cc : Nat) (ins : List (List Cl)) (AH : Option Addr) (ch : Nat) (w : World) (hH : RdHeads w AH ins) (hi : ins.length = 1) (ho : outs.length = 1)
    (hf : ∀ A d W, (ins.getD 0 []).length ≤ d → Rd w [] 2 A (ins.getD 0 []).length (csCells (ins.getD 0 [])) → Keeps [] w W → Calls Tryz.prog 64 #[jAgg (⟨at_, 1, outs, js, cols, op, ⟨lc, lk, ln, lw⟩, ⟨rc, rk, rn, rw'⟩, retry⟩ : Jb) Ao co Ai ni ci Ac cc, .slice A (ins.getD 0 []).length d] W fun e w' => ColsOut (comparedJ (⟨at_, 1, outs, js, cols, op, ⟨lc, lk, ln, lw⟩, ⟨rc, rk, rn, rw'⟩, retry⟩ : Jb) (ins.getD 0 [])) e w' ∧ Keeps [] W w') :
    Calls Tryz.prog 43 #[.agg #[.int .i64 at_, .int .i64 1, .slice Ao outs.length co, .slice Ai ni ci, .slice Ac cols.length cc, .string (bs op), .string (bs lc), .int .i64 lk, .int .i64 ln, .string (bs lw), .string (bs rc), .int .i64 rk, .int .i64 rn, .string (bs rw'), .int .i64 retry], .slice AH ins.length ch] w fun e w' => ColsOut (comparedJ (⟨at_, 1, outs, js, cols, op, ⟨lc, lk, ln, lw⟩, ⟨rc, rk, rn, rw'⟩, retry⟩ : Jb) (ins.getD 0 [])) e w' ∧ Keeps [] w w' := by
  obtain ⟨b, o, A, d, rfl, hb, hd0, hd, hA⟩ := hH.first (by omega) (by omega)
  have HF := Lib.hid (fun W => hf A d W hd hA)
  clear hf hA hH
  generalize comparedJ (⟨at_, 1, outs, js, cols, op, ⟨lc, lk, ln, lw⟩, ⟨rc, rk, rn, rw'⟩, retry⟩ : Jb) (ins.getD 0 []) = R at *
  have HF' : Hid (∀ W, Keeps [] w W → Calls Tryz.prog 64 #[.agg #[.int .i64 at_, .int .i64 1, .slice Ao outs.length co, .slice Ai ni ci, .slice Ac cols.length cc, .string (bs op), .string (bs lc), .int .i64 lk, .int .i64 ln, .string (bs lw), .string (bs rc), .int .i64 rk, .int .i64 rn, .string (bs rw'), .int .i64 retry], .slice A (ins.getD 0 []).length d] W fun e w' => ColsOut R e w' ∧ Keeps [] W w') := HF
  clear HF
  generalize (ins.getD 0 []).length = n at *
  have HS : Hid (∀ W, Calls Tryz.prog 63 #[.int .i64 1] W fun e W' => e = .returned (.tuple #[.int .i64 1, .int .i64 1]) ∧ W = W') := Lib.hid fun W => by
    have h := sizes_any 1 W
    rw [show sizesN 1 = (1, 1) by decide] at h
    exact h
  rw [hi]
  rw [ho] at HF' ⊢
  clear hi ho
  go_enter Tryz.func43, Tryz.ntmps43
  go_wp2_with (go_at_call 63; refine (HS.out _).mono ?_; rintro e w6 ⟨rfl, rfl⟩)
  refine (HF'.out _ ((Keeps.refl _ _).alloc _)).mono ?_
  rintro e w3 ⟨hco, hk3⟩
  obtain ⟨u, v, rfl, hco⟩ := hco.split
  have HCO := Lib.hid hco
  have HK3 := Lib.hid (((Keeps.refl _ _).alloc _).trans hk3)
  clear hk3 hco
  go_wp2
  go_ret2
  exact ⟨HCO.out, HK3.out⟩
set_option maxHeartbeats 4000000 in
theorem cols_9 (at_ retry lk ln rk rn : Int) (outs js cols : List Bs) (op lc lw rc rw' : Bs) (Ao : Option Addr) (co : Nat) (Ai : Option Addr) (ni ci : Nat) (Ac : Option Addr) (cc : Nat) (ins : List (List Cl)) (AH : Option Addr) (ch : Nat) (w : World) (hH : RdHeads w AH ins) (hi : ins.length = 1) (ho : outs.length = 2)
    (hf : ∀ A d W, (ins.getD 0 []).length ≤ d → Rd w [] 2 A (ins.getD 0 []).length (csCells (ins.getD 0 [])) → Keeps [] w W → Calls Tryz.prog 64 #[jAgg (⟨at_, 9, outs, js, cols, op, ⟨lc, lk, ln, lw⟩, ⟨rc, rk, rn, rw'⟩, retry⟩ : Jb) Ao co Ai ni ci Ac cc, .slice A (ins.getD 0 []).length d] W fun e w' => ColsOut (comparedJ (⟨at_, 9, outs, js, cols, op, ⟨lc, lk, ln, lw⟩, ⟨rc, rk, rn, rw'⟩, retry⟩ : Jb) (ins.getD 0 [])) e w' ∧ Keeps [] W w') :
    Calls Tryz.prog 43 #[.agg #[.int .i64 at_, .int .i64 9, .slice Ao outs.length co, .slice Ai ni ci, .slice Ac cols.length cc, .string (bs op), .string (bs lc), .int .i64 lk, .int .i64 ln, .string (bs lw), .string (bs rc), .int .i64 rk, .int .i64 rn, .string (bs rw'), .int .i64 retry], .slice AH ins.length ch] w fun e w' => ColsOut (comparedJ (⟨at_, 9, outs, js, cols, op, ⟨lc, lk, ln, lw⟩, ⟨rc, rk, rn, rw'⟩, retry⟩ : Jb) (ins.getD 0 [])) e w' ∧ Keeps [] w w' := by
  obtain ⟨b, o, A, d, rfl, hb, hd0, hd, hA⟩ := hH.first (by omega) (by omega)
  have HF := Lib.hid (fun W => hf A d W hd hA)
  clear hf hA hH
  generalize comparedJ (⟨at_, 9, outs, js, cols, op, ⟨lc, lk, ln, lw⟩, ⟨rc, rk, rn, rw'⟩, retry⟩ : Jb) (ins.getD 0 []) = R at *
  have HF' : Hid (∀ W, Keeps [] w W → Calls Tryz.prog 64 #[.agg #[.int .i64 at_, .int .i64 9, .slice Ao outs.length co, .slice Ai ni ci, .slice Ac cols.length cc, .string (bs op), .string (bs lc), .int .i64 lk, .int .i64 ln, .string (bs lw), .string (bs rc), .int .i64 rk, .int .i64 rn, .string (bs rw'), .int .i64 retry], .slice A (ins.getD 0 []).length d] W fun e w' => ColsOut R e w' ∧ Keeps [] W w') := HF
  clear HF
  generalize (ins.getD 0 []).length = n at *
  have HS : Hid (∀ W, Calls Tryz.prog 63 #[.int .i64 9] W fun e W' => e = .returned (.tuple #[.int .i64 1, .int .i64 2]) ∧ W = W') := Lib.hid fun W => by
    have h := sizes_any 9 W
    rw [show sizesN 9 = (1, 2) by decide] at h
    exact h
  rw [hi]
  rw [ho] at HF' ⊢
  clear hi ho
  go_enter Tryz.func43, Tryz.ntmps43
  go_wp2_with (go_at_call 63; refine (HS.out _).mono ?_; rintro e w6 ⟨rfl, rfl⟩)
  refine (HF'.out _ ((Keeps.refl _ _).alloc _)).mono ?_
  rintro e w3 ⟨hco, hk3⟩
  obtain ⟨u, v, rfl, hco⟩ := hco.split
  have HCO := Lib.hid hco
  have HK3 := Lib.hid (((Keeps.refl _ _).alloc _).trans hk3)
  clear hk3 hco
  go_wp2
  go_ret2
  exact ⟨HCO.out, HK3.out⟩
set_option maxHeartbeats 4000000 in
theorem cols_2 (at_ retry lk ln rk rn : Int) (outs js cols : List Bs) (op lc lw rc rw' : Bs) (Ao : Option Addr) (co : Nat) (Ai : Option Addr) (ni ci : Nat) (Ac : Option Addr) (cc : Nat) (ins : List (List Cl)) (AH : Option Addr) (ch : Nat) (w : World) (hH : RdHeads w AH ins) (hi : ins.length = 1) (ho : outs.length = 1)
    (hf : ∀ A d W, (ins.getD 0 []).length ≤ d → Rd w [] 2 A (ins.getD 0 []).length (csCells (ins.getD 0 [])) → Keeps [] w W → Calls Tryz.prog 65 #[jAgg (⟨at_, 2, outs, js, cols, op, ⟨lc, lk, ln, lw⟩, ⟨rc, rk, rn, rw'⟩, retry⟩ : Jb) Ao co Ai ni ci Ac cc, .slice A (ins.getD 0 []).length d] W fun e w' => ColsOut (setJ (⟨at_, 2, outs, js, cols, op, ⟨lc, lk, ln, lw⟩, ⟨rc, rk, rn, rw'⟩, retry⟩ : Jb) (ins.getD 0 [])) e w' ∧ Keeps [] W w') :
    Calls Tryz.prog 43 #[.agg #[.int .i64 at_, .int .i64 2, .slice Ao outs.length co, .slice Ai ni ci, .slice Ac cols.length cc, .string (bs op), .string (bs lc), .int .i64 lk, .int .i64 ln, .string (bs lw), .string (bs rc), .int .i64 rk, .int .i64 rn, .string (bs rw'), .int .i64 retry], .slice AH ins.length ch] w fun e w' => ColsOut (setJ (⟨at_, 2, outs, js, cols, op, ⟨lc, lk, ln, lw⟩, ⟨rc, rk, rn, rw'⟩, retry⟩ : Jb) (ins.getD 0 [])) e w' ∧ Keeps [] w w' := by
  obtain ⟨b, o, A, d, rfl, hb, hd0, hd, hA⟩ := hH.first (by omega) (by omega)
  have HF := Lib.hid (fun W => hf A d W hd hA)
  clear hf hA hH
  generalize setJ (⟨at_, 2, outs, js, cols, op, ⟨lc, lk, ln, lw⟩, ⟨rc, rk, rn, rw'⟩, retry⟩ : Jb) (ins.getD 0 []) = R at *
  have HF' : Hid (∀ W, Keeps [] w W → Calls Tryz.prog 65 #[.agg #[.int .i64 at_, .int .i64 2, .slice Ao outs.length co, .slice Ai ni ci, .slice Ac cols.length cc, .string (bs op), .string (bs lc), .int .i64 lk, .int .i64 ln, .string (bs lw), .string (bs rc), .int .i64 rk, .int .i64 rn, .string (bs rw'), .int .i64 retry], .slice A (ins.getD 0 []).length d] W fun e w' => ColsOut R e w' ∧ Keeps [] W w') := HF
  clear HF
  generalize (ins.getD 0 []).length = n at *
  have HS : Hid (∀ W, Calls Tryz.prog 63 #[.int .i64 2] W fun e W' => e = .returned (.tuple #[.int .i64 1, .int .i64 1]) ∧ W = W') := Lib.hid fun W => by
    have h := sizes_any 2 W
    rw [show sizesN 2 = (1, 1) by decide] at h
    exact h
  rw [hi]
  rw [ho] at HF' ⊢
  clear hi ho
  go_enter Tryz.func43, Tryz.ntmps43
  go_wp2_with (go_at_call 63; refine (HS.out _).mono ?_; rintro e w6 ⟨rfl, rfl⟩)
  refine (HF'.out _ ((Keeps.refl _ _).alloc _)).mono ?_
  rintro e w3 ⟨hco, hk3⟩
  obtain ⟨u, v, rfl, hco⟩ := hco.split
  have HCO := Lib.hid hco
  have HK3 := Lib.hid (((Keeps.refl _ _).alloc _).trans hk3)
  clear hk3 hco
  go_wp2
  go_ret2
  exact ⟨HCO.out, HK3.out⟩
set_option maxHeartbeats 4000000 in
theorem cols_3 (at_ retry lk ln rk rn : Int) (outs js cols : List Bs) (op lc lw rc rw' : Bs) (Ao : Option Addr) (co : Nat) (Ai : Option Addr) (ni ci : Nat) (Ac : Option Addr) (cc : Nat) (ins : List (List Cl)) (AH : Option Addr) (ch : Nat) (w : World) (hH : RdHeads w AH ins) (hi : ins.length = 1) (ho : outs.length = 1)
    (hf : ∀ A d W, (ins.getD 0 []).length ≤ d → Rd w [] 2 A (ins.getD 0 []).length (csCells (ins.getD 0 [])) → Keeps [] w W → Calls Tryz.prog 66 #[jAgg (⟨at_, 3, outs, js, cols, op, ⟨lc, lk, ln, lw⟩, ⟨rc, rk, rn, rw'⟩, retry⟩ : Jb) Ao co Ai ni ci Ac cc, .slice A (ins.getD 0 []).length d] W fun e w' => ColsOut (pickedJ (⟨at_, 3, outs, js, cols, op, ⟨lc, lk, ln, lw⟩, ⟨rc, rk, rn, rw'⟩, retry⟩ : Jb) (ins.getD 0 [])) e w' ∧ Keeps [] W w') :
    Calls Tryz.prog 43 #[.agg #[.int .i64 at_, .int .i64 3, .slice Ao outs.length co, .slice Ai ni ci, .slice Ac cols.length cc, .string (bs op), .string (bs lc), .int .i64 lk, .int .i64 ln, .string (bs lw), .string (bs rc), .int .i64 rk, .int .i64 rn, .string (bs rw'), .int .i64 retry], .slice AH ins.length ch] w fun e w' => ColsOut (pickedJ (⟨at_, 3, outs, js, cols, op, ⟨lc, lk, ln, lw⟩, ⟨rc, rk, rn, rw'⟩, retry⟩ : Jb) (ins.getD 0 [])) e w' ∧ Keeps [] w w' := by
  obtain ⟨b, o, A, d, rfl, hb, hd0, hd, hA⟩ := hH.first (by omega) (by omega)
  have HF := Lib.hid (fun W => hf A d W hd hA)
  clear hf hA hH
  generalize pickedJ (⟨at_, 3, outs, js, cols, op, ⟨lc, lk, ln, lw⟩, ⟨rc, rk, rn, rw'⟩, retry⟩ : Jb) (ins.getD 0 []) = R at *
  have HF' : Hid (∀ W, Keeps [] w W → Calls Tryz.prog 66 #[.agg #[.int .i64 at_, .int .i64 3, .slice Ao outs.length co, .slice Ai ni ci, .slice Ac cols.length cc, .string (bs op), .string (bs lc), .int .i64 lk, .int .i64 ln, .string (bs lw), .string (bs rc), .int .i64 rk, .int .i64 rn, .string (bs rw'), .int .i64 retry], .slice A (ins.getD 0 []).length d] W fun e w' => ColsOut R e w' ∧ Keeps [] W w') := HF
  clear HF
  generalize (ins.getD 0 []).length = n at *
  have HS : Hid (∀ W, Calls Tryz.prog 63 #[.int .i64 3] W fun e W' => e = .returned (.tuple #[.int .i64 1, .int .i64 1]) ∧ W = W') := Lib.hid fun W => by
    have h := sizes_any 3 W
    rw [show sizesN 3 = (1, 1) by decide] at h
    exact h
  rw [hi]
  rw [ho] at HF' ⊢
  clear hi ho
  go_enter Tryz.func43, Tryz.ntmps43
  go_wp2_with (go_at_call 63; refine (HS.out _).mono ?_; rintro e w6 ⟨rfl, rfl⟩)
  refine (HF'.out _ ((Keeps.refl _ _).alloc _)).mono ?_
  rintro e w3 ⟨hco, hk3⟩
  obtain ⟨u, v, rfl, hco⟩ := hco.split
  have HCO := Lib.hid hco
  have HK3 := Lib.hid (((Keeps.refl _ _).alloc _).trans hk3)
  clear hk3 hco
  go_wp2
  go_ret2
  exact ⟨HCO.out, HK3.out⟩
set_option maxHeartbeats 4000000 in
theorem cols_4 (at_ retry lk ln rk rn : Int) (outs js cols : List Bs) (op lc lw rc rw' : Bs) (Ao : Option Addr) (co : Nat) (Ai : Option Addr) (ni ci : Nat) (Ac : Option Addr) (cc : Nat) (ins : List (List Cl)) (AH : Option Addr) (ch : Nat) (w : World) (hH : RdHeads w AH ins) (hi : ins.length = 1) (ho : outs.length = 1)
    (hf : ∀ A d W, (ins.getD 0 []).length ≤ d → Rd w [] 2 A (ins.getD 0 []).length (csCells (ins.getD 0 [])) → Keeps [] w W → Calls Tryz.prog 66 #[jAgg (⟨at_, 4, outs, js, cols, op, ⟨lc, lk, ln, lw⟩, ⟨rc, rk, rn, rw'⟩, retry⟩ : Jb) Ao co Ai ni ci Ac cc, .slice A (ins.getD 0 []).length d] W fun e w' => ColsOut (pickedJ (⟨at_, 4, outs, js, cols, op, ⟨lc, lk, ln, lw⟩, ⟨rc, rk, rn, rw'⟩, retry⟩ : Jb) (ins.getD 0 [])) e w' ∧ Keeps [] W w') :
    Calls Tryz.prog 43 #[.agg #[.int .i64 at_, .int .i64 4, .slice Ao outs.length co, .slice Ai ni ci, .slice Ac cols.length cc, .string (bs op), .string (bs lc), .int .i64 lk, .int .i64 ln, .string (bs lw), .string (bs rc), .int .i64 rk, .int .i64 rn, .string (bs rw'), .int .i64 retry], .slice AH ins.length ch] w fun e w' => ColsOut (pickedJ (⟨at_, 4, outs, js, cols, op, ⟨lc, lk, ln, lw⟩, ⟨rc, rk, rn, rw'⟩, retry⟩ : Jb) (ins.getD 0 [])) e w' ∧ Keeps [] w w' := by
  obtain ⟨b, o, A, d, rfl, hb, hd0, hd, hA⟩ := hH.first (by omega) (by omega)
  have HF := Lib.hid (fun W => hf A d W hd hA)
  clear hf hA hH
  generalize pickedJ (⟨at_, 4, outs, js, cols, op, ⟨lc, lk, ln, lw⟩, ⟨rc, rk, rn, rw'⟩, retry⟩ : Jb) (ins.getD 0 []) = R at *
  have HF' : Hid (∀ W, Keeps [] w W → Calls Tryz.prog 66 #[.agg #[.int .i64 at_, .int .i64 4, .slice Ao outs.length co, .slice Ai ni ci, .slice Ac cols.length cc, .string (bs op), .string (bs lc), .int .i64 lk, .int .i64 ln, .string (bs lw), .string (bs rc), .int .i64 rk, .int .i64 rn, .string (bs rw'), .int .i64 retry], .slice A (ins.getD 0 []).length d] W fun e w' => ColsOut R e w' ∧ Keeps [] W w') := HF
  clear HF
  generalize (ins.getD 0 []).length = n at *
  have HS : Hid (∀ W, Calls Tryz.prog 63 #[.int .i64 4] W fun e W' => e = .returned (.tuple #[.int .i64 1, .int .i64 1]) ∧ W = W') := Lib.hid fun W => by
    have h := sizes_any 4 W
    rw [show sizesN 4 = (1, 1) by decide] at h
    exact h
  rw [hi]
  rw [ho] at HF' ⊢
  clear hi ho
  go_enter Tryz.func43, Tryz.ntmps43
  go_wp2_with (go_at_call 63; refine (HS.out _).mono ?_; rintro e w6 ⟨rfl, rfl⟩)
  refine (HF'.out _ ((Keeps.refl _ _).alloc _)).mono ?_
  rintro e w3 ⟨hco, hk3⟩
  obtain ⟨u, v, rfl, hco⟩ := hco.split
  have HCO := Lib.hid hco
  have HK3 := Lib.hid (((Keeps.refl _ _).alloc _).trans hk3)
  clear hk3 hco
  go_wp2
  go_ret2
  exact ⟨HCO.out, HK3.out⟩
set_option maxHeartbeats 4000000 in
theorem cols_8 (at_ retry lk ln rk rn : Int) (outs js cols : List Bs) (op lc lw rc rw' : Bs) (Ao : Option Addr) (co : Nat) (Ai : Option Addr) (ni ci : Nat) (Ac : Option Addr) (cc : Nat) (ins : List (List Cl)) (AH : Option Addr) (ch : Nat) (w : World) (hH : RdHeads w AH ins) (hi : ins.length = 1) (ho : outs.length = 1)
    (hf : ∀ A d W, (ins.getD 0 []).length ≤ d → Rd w [] 2 A (ins.getD 0 []).length (csCells (ins.getD 0 [])) → Keeps [] w W → Calls Tryz.prog 68 #[jAgg (⟨at_, 8, outs, js, cols, op, ⟨lc, lk, ln, lw⟩, ⟨rc, rk, rn, rw'⟩, retry⟩ : Jb) Ao co Ai ni ci Ac cc, .slice A (ins.getD 0 []).length d] W fun e w' => ColsOut (groupedJ (⟨at_, 8, outs, js, cols, op, ⟨lc, lk, ln, lw⟩, ⟨rc, rk, rn, rw'⟩, retry⟩ : Jb) (ins.getD 0 [])) e w' ∧ Keeps [] W w') :
    Calls Tryz.prog 43 #[.agg #[.int .i64 at_, .int .i64 8, .slice Ao outs.length co, .slice Ai ni ci, .slice Ac cols.length cc, .string (bs op), .string (bs lc), .int .i64 lk, .int .i64 ln, .string (bs lw), .string (bs rc), .int .i64 rk, .int .i64 rn, .string (bs rw'), .int .i64 retry], .slice AH ins.length ch] w fun e w' => ColsOut (groupedJ (⟨at_, 8, outs, js, cols, op, ⟨lc, lk, ln, lw⟩, ⟨rc, rk, rn, rw'⟩, retry⟩ : Jb) (ins.getD 0 [])) e w' ∧ Keeps [] w w' := by
  obtain ⟨b, o, A, d, rfl, hb, hd0, hd, hA⟩ := hH.first (by omega) (by omega)
  have HF := Lib.hid (fun W => hf A d W hd hA)
  clear hf hA hH
  generalize groupedJ (⟨at_, 8, outs, js, cols, op, ⟨lc, lk, ln, lw⟩, ⟨rc, rk, rn, rw'⟩, retry⟩ : Jb) (ins.getD 0 []) = R at *
  have HF' : Hid (∀ W, Keeps [] w W → Calls Tryz.prog 68 #[.agg #[.int .i64 at_, .int .i64 8, .slice Ao outs.length co, .slice Ai ni ci, .slice Ac cols.length cc, .string (bs op), .string (bs lc), .int .i64 lk, .int .i64 ln, .string (bs lw), .string (bs rc), .int .i64 rk, .int .i64 rn, .string (bs rw'), .int .i64 retry], .slice A (ins.getD 0 []).length d] W fun e w' => ColsOut R e w' ∧ Keeps [] W w') := HF
  clear HF
  generalize (ins.getD 0 []).length = n at *
  have HS : Hid (∀ W, Calls Tryz.prog 63 #[.int .i64 8] W fun e W' => e = .returned (.tuple #[.int .i64 1, .int .i64 1]) ∧ W = W') := Lib.hid fun W => by
    have h := sizes_any 8 W
    rw [show sizesN 8 = (1, 1) by decide] at h
    exact h
  rw [hi]
  rw [ho] at HF' ⊢
  clear hi ho
  go_enter Tryz.func43, Tryz.ntmps43
  go_wp2_with (go_at_call 63; refine (HS.out _).mono ?_; rintro e w6 ⟨rfl, rfl⟩)
  refine (HF'.out _ ((Keeps.refl _ _).alloc _)).mono ?_
  rintro e w3 ⟨hco, hk3⟩
  obtain ⟨u, v, rfl, hco⟩ := hco.split
  have HCO := Lib.hid hco
  have HK3 := Lib.hid (((Keeps.refl _ _).alloc _).trans hk3)
  clear hk3 hco
  go_wp2
  go_ret2
  exact ⟨HCO.out, HK3.out⟩
end Go.Proofs.YtomgnjgaafnkiaaGreatDoor
namespace Go.Proofs.YtomgnjgaafnkiaaGreatDoor
open Go.RowKit Go.BigFrame
attribute [local go_sem] bs_size bs_extract bs_append bs_toList
attribute [local go_sem] KW.cell
theorem size_alloc (w : World) (o : Obj) : (w.alloc o).heap.size = w.heap.size + 1 := by
  show (w.heap.push o).size = _
  simp
set_option maxHeartbeats 4000000 in
theorem cols_6 (at_ retry lk ln rk rn : Int) (outs _js cols : List Bs) (op lc lw rc rw' : Bs) (Ao : Option Addr) (co : Nat) (Ai : Option Addr) (ni ci : Nat) (Ac : Option Addr) (cc : Nat) (ins : List (List Cl)) (AH : Option Addr) (ch : Nat) (w : World) (hH : RdHeads w AH ins) (hi : ins.length = 1) (ho : outs.length = 1) :
    Calls Tryz.prog 43 #[.agg #[.int .i64 at_, .int .i64 6, .slice Ao outs.length co, .slice Ai ni ci, .slice Ac cols.length cc, .string (bs op), .string (bs lc), .int .i64 lk, .int .i64 ln, .string (bs lw), .string (bs rc), .int .i64 rk, .int .i64 rn, .string (bs rw'), .int .i64 retry], .slice AH ins.length ch] w fun e w' => ColsOut (.ok [ins.getD 0 []]) e w' ∧ Keeps [] w w' := by
  obtain ⟨b, o, A, d, rfl, hb, hd0, hd, hA⟩ := hH.first (by omega) (by omega)
  clear hH
  have HS : Hid (∀ W, Calls Tryz.prog 63 #[.int .i64 6] W fun e W' => e = .returned (.tuple #[.int .i64 1, .int .i64 1]) ∧ W = W') := Lib.hid fun W => by
    have h := sizes_any 6 W
    rw [show sizesN 6 = (1, 1) by decide] at h
    exact h
  rw [hi, ho]
  clear hi ho
  have HA := Lib.hid hA
  have HD := Lib.hid hd
  generalize ins.getD 0 [] = l at *
  clear hA hd
  have HK0 : Hid (Keeps [] w (w.alloc (.cells #[.int .i64 at_, .int .i64 6, .slice Ao 1 co, .slice Ai ni ci, .slice Ac cols.length cc, .string (bs op), .string (bs lc), .int .i64 lk, .int .i64 ln, .string (bs lw), .string (bs rc), .int .i64 rk, .int .i64 rn, .string (bs rw'), .int .i64 retry] 36))) := Lib.hid ((Keeps.refl _ _).alloc _)
  have HRO := Lib.hid (heads_one (HA.out.keep HK0.out) HD.out 22)
  rw [size_alloc] at HRO
  go_enter Tryz.func43, Tryz.ntmps43
  go_wp2_with (go_at_call 63; refine (HS.out _).mono ?_; rintro e w6 ⟨rfl, rfl⟩)
  go_ret2
  exact ⟨⟨_, _, rfl, Nat.le_refl _, HRO.out⟩, HK0.out.alloc _⟩
set_option maxHeartbeats 4000000 in
theorem cols_5 (at_ retry lk ln rk rn : Int) (outs _js cols : List Bs) (op lc lw rc rw' : Bs) (Ao : Option Addr) (co : Nat) (Ai : Option Addr) (ni ci : Nat) (Ac : Option Addr) (cc : Nat) (ins : List (List Cl)) (AH : Option Addr) (ch : Nat) (w : World) (hH : RdHeads w AH ins) (hll : ∀ l ∈ ins, l.length ≤ 4294967296) (hi : ins.length = 2) (ho : outs.length = 1) :
    Calls Tryz.prog 43 #[.agg #[.int .i64 at_, .int .i64 5, .slice Ao outs.length co, .slice Ai ni ci, .slice Ac cols.length cc, .string (bs op), .string (bs lc), .int .i64 lk, .int .i64 ln, .string (bs lw), .string (bs rc), .int .i64 rk, .int .i64 rn, .string (bs rw'), .int .i64 retry], .slice AH ins.length ch] w fun e w' => ColsOut (if ins.getD 0 [] ≠ ins.getD 1 [] then .error 13 else .ok [ins.getD 0 []]) e w' ∧ Keeps [] w w' := by
  obtain ⟨b, o, A, d, rfl, hb, hd0, hd, hA⟩ := hH.first (by omega) (by omega)
  obtain ⟨B, dB, hd1, hdB, hB⟩ := hH.second (by omega) (by omega)
  clear hH
  have hl0 : (ins.getD 0 []).length ≤ 4294967296 := hll _ (by rw [List.getD_eq_getElem?_getD, List.getElem?_eq_getElem (by omega)]; exact List.getElem_mem _)
  have hl1 : (ins.getD 1 []).length ≤ 4294967296 := hll _ (by rw [List.getD_eq_getElem?_getD, List.getElem?_eq_getElem (by omega)]; exact List.getElem_mem _)
  have HS : Hid (∀ W, Calls Tryz.prog 63 #[.int .i64 5] W fun e W' => e = .returned (.tuple #[.int .i64 2, .int .i64 1]) ∧ W = W') := Lib.hid fun W => by
    have h := sizes_any 5 W
    rw [show sizesN 5 = (2, 1) by decide] at h
    exact h
  rw [hi, ho]
  clear hi ho hll
  have HEQ := Lib.hid (fun W (q : Keeps [] w W) => equalC_any (ins.getD 0 []) (ins.getD 1 []) A B d dB W (hA.keep q) (hB.keep q) hl0 hl1)
  have HA := Lib.hid hA
  have HD := Lib.hid hd
  generalize ins.getD 0 [] = l at *
  generalize ins.getD 1 [] = m at *
  clear hA hd hB hl0 hl1 hdB
  have HK0 : Hid (Keeps [] w (w.alloc (.cells #[.int .i64 at_, .int .i64 5, .slice Ao 1 co, .slice Ai ni ci, .slice Ac cols.length cc, .string (bs op), .string (bs lc), .int .i64 lk, .int .i64 ln, .string (bs lw), .string (bs rc), .int .i64 rk, .int .i64 rn, .string (bs rw'), .int .i64 retry] 36))) := Lib.hid ((Keeps.refl _ _).alloc _)
  by_cases heq : l = m
  · rw [decide_eq_true heq] at HEQ
    rw [if_neg (fun h => h heq)]
    clear heq
    go_enter Tryz.func43, Tryz.ntmps43
    go_wp2_with (go_at_call 63; refine (HS.out _).mono ?_; rintro e w6 ⟨rfl, rfl⟩)
    refine (HEQ.out _ HK0.out).mono ?_
    rintro e w3 ⟨rfl, hk3⟩
    have HK3 := Lib.hid (HK0.out.trans hk3)
    clear hk3
    have HRO := Lib.hid (heads_one (HA.out.keep HK3.out) HD.out 22)
    go_wp2
    go_ret2
    exact ⟨⟨_, _, rfl, Nat.le_refl _, HRO.out⟩, HK3.out.alloc _⟩
  · rw [decide_eq_false heq] at HEQ
    rw [if_pos heq]
    clear heq
    go_enter Tryz.func43, Tryz.ntmps43
    go_wp2_with (go_at_call 63; refine (HS.out _).mono ?_; rintro e w6 ⟨rfl, rfl⟩)
    refine (HEQ.out _ HK0.out).mono ?_
    rintro e w3 ⟨rfl, hk3⟩
    have HK3 := Lib.hid (HK0.out.trans hk3)
    clear hk3
    go_wp2
    go_ret2
    exact ⟨rfl, HK3.out⟩
set_option maxHeartbeats 4000000 in
theorem cols_bad (at_ code retry lk ln rk rn : Int) (outs _js cols : List Bs) (op lc lw rc rw' : Bs) (Ao : Option Addr) (co : Nat) (Ai : Option Addr) (ni ci : Nat) (Ac : Option Addr) (cc : Nat) (ins : List (List Cl)) (AH : Option Addr) (ch : Nat) (w : World) (hbad : (sizesN code).1 = 0 ∨ ins.length ≠ (sizesN code).1 ∨ outs.length ≠ (sizesN code).2) :
    Calls Tryz.prog 43 #[.agg #[.int .i64 at_, .int .i64 code, .slice Ao outs.length co, .slice Ai ni ci, .slice Ac cols.length cc, .string (bs op), .string (bs lc), .int .i64 lk, .int .i64 ln, .string (bs lw), .string (bs rc), .int .i64 rk, .int .i64 rn, .string (bs rw'), .int .i64 retry], .slice AH ins.length ch] w fun e w' => ColsOut (.error 1) e w' ∧ Keeps [] w w' := by
  have HS := Lib.hid (fun W => sizes_any code W)
  generalize sizesN code = s at *
  obtain ⟨s1, s2⟩ := s
  simp only at hbad HS
  have hto : ∃ b1 b2 b3, ((s1 : Int) == 0) = b1 ∧ ((ins.length : Int) != (s1 : Int)) = b2 ∧ ((outs.length : Int) != (s2 : Int)) = b3 ∧ (b1 = true ∨ b2 = true ∨ b3 = true) := ⟨_, _, _, rfl, rfl, rfl, by
    rcases hbad with h | h | h
    · exact .inl (by rw [h]; rfl)
    · exact .inr (.inl (by rw [bne_iff_ne]; omega))
    · exact .inr (.inr (by rw [bne_iff_ne]; omega))⟩
  obtain ⟨b1, b2, b3, t1, t2, t3, hbb⟩ := hto
  clear hbad
  have hway : (b1 = true) ∨ (b1 = false ∧ b2 = true) ∨ (b1 = false ∧ b2 = false ∧ b3 = true) := by
    cases b1 <;> cases b2 <;> cases b3 <;> simp at hbb ⊢
  clear hbb
  rcases hway with rfl | ⟨rfl, rfl⟩ | ⟨rfl, rfl, rfl⟩
  all_goals
    go_enter Tryz.func43, Tryz.ntmps43
    go_wp2_with (go_at_call 63; refine (HS.out _).mono ?_; rintro e w6 ⟨rfl, rfl⟩)
    go_ret2
    exact ⟨rfl, (Keeps.refl _ _).alloc _⟩
theorem sizes_pos {code : Int} (h : (sizesN code).1 ≠ 0) : code = 5 ∨ code = 7 ∨ code = 9 ∨ code = 1 ∨ code = 2 ∨ code = 3 ∨ code = 4 ∨ code = 6 ∨ code = 8 := by
  unfold sizesN at h
  split at h
  · omega
  · split at h
    · omega
    · split at h
      · omega
      · exact absurd rfl h
set_option maxHeartbeats 1000000 in
/-- Cols, of every code but Join's. -/
theorem cols_any (j : Jb) (Ao : Option Addr) (co : Nat) (Ai : Option Addr) (ni ci : Nat) (Ac : Option Addr) (cc : Nat) (ins : List (List Cl)) (AH : Option Addr) (ch : Nat) (w : World) (hE : OEnv w) (hJ : JobIn w j Ao co Ac cc) (hH : RdHeads w AH ins) (hll : ∀ l ∈ ins, l.length ≤ 4294967296) (h7 : j.code ≠ 7)
    (h8 : j.code = 8 → ∀ A d W, (ins.getD 0 []).length ≤ d → Rd w [] 2 A (ins.getD 0 []).length (csCells (ins.getD 0 [])) → Keeps [] w W → Calls Tryz.prog 68 #[jAgg j Ao co Ai ni ci Ac cc, .slice A (ins.getD 0 []).length d] W fun e w' => ColsOut (groupedJ j (ins.getD 0 [])) e w' ∧ Keeps [] W w') :
    Calls Tryz.prog 43 #[jAgg j Ao co Ai ni ci Ac cc, .slice AH ins.length ch] w fun e w' => ColsOut (colsJ j ins) e w' ∧ Keeps [] w w' := by
  unfold colsJ
  by_cases hbad : (sizesN j.code).1 = 0 ∨ ins.length ≠ (sizesN j.code).1 ∨ j.outs.length ≠ (sizesN j.code).2
  · rw [if_pos hbad]
    obtain ⟨at_, code, outs, js, cols, op, ⟨lc, lk, ln, lw⟩, ⟨rc, rk, rn, rw'⟩, retry⟩ := j
    exact cols_bad _ _ _ _ _ _ _ _ js _ _ _ _ _ _ _ _ _ _ _ _ _ _ _ _ _ hbad
  · rw [if_neg hbad]
    have h0 : (sizesN j.code).1 ≠ 0 := fun h => hbad (.inl h)
    have hi : ins.length = (sizesN j.code).1 := Decidable.byContradiction fun h => hbad (.inr (.inl h))
    have ho : j.outs.length = (sizesN j.code).2 := Decidable.byContradiction fun h => hbad (.inr (.inr h))
    have hl0 : (ins.getD 0 []).length ≤ 4294967296 := hll _ (by rw [List.getD_eq_getElem?_getD, List.getElem?_eq_getElem (by omega)]; exact List.getElem_mem _)
    have hcp := fun A d W (h1 : (ins.getD 0 []).length ≤ d) (h2 : Rd w [] 2 A (ins.getD 0 []).length (csCells (ins.getD 0 []))) (q : Keeps [] w W) => compared_any j (ins.getD 0 []) Ao co Ai ni ci Ac cc A d W (hE.quiet q) (h2.keep q) h1 hl0
    have hst := fun A d W (h1 : (ins.getD 0 []).length ≤ d) (h2 : Rd w [] 2 A (ins.getD 0 []).length (csCells (ins.getD 0 []))) (q : Keeps [] w W) => set_any j (ins.getD 0 []) Ao co Ai ni ci Ac cc A d W (hJ.quiet q) (h2.keep q) h1 hl0
    have hpk := fun A d W (h1 : (ins.getD 0 []).length ≤ d) (h2 : Rd w [] 2 A (ins.getD 0 []).length (csCells (ins.getD 0 []))) (q : Keeps [] w W) => picked_any j (ins.getD 0 []) Ao co Ai ni ci Ac cc A d W (hJ.quiet q) (h2.keep q) h1 hl0
    have hcase := sizes_pos h0
    clear hbad h0 hE hJ
    obtain ⟨at_, code, outs, js, cols, op, ⟨lc, lk, ln, lw⟩, ⟨rc, rk, rn, rw'⟩, retry⟩ := j
    simp only at h7 h8 hi ho hcase ⊢
    rcases hcase with rfl | rfl | rfl | rfl | rfl | rfl | rfl | rfl | rfl
    · exact cols_5 at_ retry lk ln rk rn outs js cols op lc lw rc rw' Ao co Ai ni ci Ac cc ins AH ch w hH hll hi ho
    · exact absurd rfl h7
    · exact cols_9 at_ retry lk ln rk rn outs js cols op lc lw rc rw' Ao co Ai ni ci Ac cc ins AH ch w hH hi ho hcp
    · exact cols_1 at_ retry lk ln rk rn outs js cols op lc lw rc rw' Ao co Ai ni ci Ac cc ins AH ch w hH hi ho hcp
    · exact cols_2 at_ retry lk ln rk rn outs js cols op lc lw rc rw' Ao co Ai ni ci Ac cc ins AH ch w hH hi ho hst
    · exact cols_3 at_ retry lk ln rk rn outs js cols op lc lw rc rw' Ao co Ai ni ci Ac cc ins AH ch w hH hi ho hpk
    · exact cols_4 at_ retry lk ln rk rn outs js cols op lc lw rc rw' Ao co Ai ni ci Ac cc ins AH ch w hH hi ho hpk
    · exact cols_6 at_ retry lk ln rk rn outs js cols op lc lw rc rw' Ao co Ai ni ci Ac cc ins AH ch w hH hi ho
    · exact cols_8 at_ retry lk ln rk rn outs js cols op lc lw rc rw' Ao co Ai ni ci Ac cc ins AH ch w hH hi ho (h8 rfl)
end Go.Proofs.YtomgnjgaafnkiaaGreatDoor
