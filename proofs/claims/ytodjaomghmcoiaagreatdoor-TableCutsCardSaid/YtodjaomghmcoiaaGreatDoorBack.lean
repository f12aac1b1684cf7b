/- TableBack: the walk. -/
import Derived.Test.YtodjaomghmcoiaaGreatDoorWritten
import Derived.Test.YtodjaomghmcoiaaGreatDoorOpen
namespace Go.Proofs.YtodjaomghmcoiaaGreatDoor
open Go.RowKit
attribute [local go_sem] bs_size bs_extract bs_append bs_toList
theorem boxT (w : World) (t : Tb) (A B : Option Addr) (c d : Nat) : Blk (w.alloc (.cells #[.slice A t.cols.length c, .slice B t.rows.length d] 25)) w.heap.size 25 #[.slice A t.cols.length c, .slice B t.rows.length d] := Blk.new _ _ _
/-- Print of any table that is held. -/
theorem print_ok {t : Tb} (h : rightB t = true) {A B : Option Addr} {c d : Nat} {w : World} (hT : TabIn w t A B c d) (hE : TEnv w) {s : Bs} (hs : printL t = s) :
    ∀ W, Keeps [] w W → Calls Tryz.prog 9 #[.agg #[.slice A t.cols.length c, .slice B t.rows.length d]] W fun e W' => e = .returned (.tuple #[.string (bs s), .nilIface]) ∧ Keeps [] W W' := fun W q => by
  rw [← hs]
  exact print_yes t A B c d W (hT.quiet q) (hE.quiet q) h
theorem print_bad {t : Tb} (h : rightB t = false) {A B : Option Addr} {c d : Nat} {w : World} (hT : TabIn w t A B c d) :
    ∀ W, Keeps [] w W → Calls Tryz.prog 9 #[.agg #[.slice A t.cols.length c, .slice B t.rows.length d]] W fun e W' => e = .returned (.tuple #[.string (bs []), .iface 47 (.int .i64 1)]) ∧ Keeps [] W W' := fun W q =>
  print_no t A B c d W (hT.quiet q) h
theorem right_is {t : Tb} {b : Bool} (h : rightB t = b) {A B : Option Addr} {c d : Nat} {w : World} (hT : TabIn w t A B c d) :
    ∀ W, Keeps [] w W → Calls Tryz.prog 10 #[.agg #[.slice A t.cols.length c, .slice B t.rows.length d]] W fun e W' => e = .returned (.bool b) ∧ Keeps [] W W' := fun W q => by
  rw [← h]
  exact (hT.quiet q).right
theorem colsT_len' {t : Tb} (h : rightB t = true) : (colsT t.cols t.cols.length).length ≤ 96 := by
  obtain ⟨h1, h2, _, _⟩ := rightB_of h
  have := colsT_len h1 _ (Nat.le_refl _)
  omega
theorem printL_len {t : Tb} (h : rightB t = true) : (printL t).length ≤ 1000000 := by
  obtain ⟨h1, h2, h3, _⟩ := rightB_of h
  have h5 := colsT_len' h
  have h6 := rowsT_len h _ (Nat.le_refl _)
  unfold printL
  simp only [List.length_append, List.length_cons, List.length_nil]
  omega
set_option maxRecDepth 100000 in
set_option maxHeartbeats 8000000 in
theorem back_all (t : Tb) (A B : Option Addr) (c d : Nat) (s : Bs) (w : World) (hT : TabAny w t A B c d) (hE : TEnv w) :
    Calls Tryz.prog 3 #[tAgg A t.cols.length c B t.rows.length d, .string (bs s)] w fun e w' => e = .returned (.bool true) ∧ Keeps [] w w' := by
  show Calls _ _ #[.agg #[.slice A t.cols.length c, .slice B t.rows.length d], .string (bs s)] w _
  have HT := Lib.hid hT
  have HE := Lib.hid hE
  have HSM : Hid (∀ W, Keeps [] w W → Calls Tryz.prog 6 #[.agg #[.slice A t.cols.length c, .slice B t.rows.length d]] W fun e W' => e = .returned (.bool (smallB t)) ∧ Keeps [] W W') := Lib.hid fun W q => small_any t A B c d W (hT.cols.keep q) (hT.rows.keep q)
  have HW := Lib.hid (fun W (q : Keeps [] w W) => written_any W (hE.quiet q))
  clear hT hE
  cases hsm : smallB t with
  | false =>
    rw [hsm] at HSM
    clear hsm
    go_enter Tryz.func3, Tryz.ntmps3
    go_wp2_with fail
    refine (HSM.out _ ((Keeps.refl _ _).alloc _)).mono ?_
    rintro e w2 ⟨rfl, hk2⟩
    go_wp2
    go_ret
    exact ⟨rfl, ((Keeps.refl _ _).alloc _).trans hk2⟩
  | true =>
    rw [hsm] at HSM
    have HIN := Lib.hid (HT.out.inn hsm)
    clear hsm HT
    by_cases hlen : 1500 < s.length
    · have t1 : (1500 : Int) < (s.length : Int) := by omega
      go_enter Tryz.func3, Tryz.ntmps3
      go_wp2_with fail
      refine (HSM.out _ ((Keeps.refl _ _).alloc _)).mono ?_
      rintro e w2 ⟨rfl, hk2⟩
      go_wp2
      go_ret
      exact ⟨rfl, ((Keeps.refl _ _).alloc _).trans hk2⟩
    · have t1 : ¬ (1500 : Int) < (s.length : Int) := by omega
      go_enter Tryz.func3, Tryz.ntmps3
      go_wp2_with fail
      refine (HSM.out _ ((Keeps.refl _ _).alloc _)).mono ?_
      rintro e w2 ⟨rfl, hk2⟩
      have HB := Lib.hid ((boxT w t A B c d).keep hk2 (by simp))
      have HK := Lib.hid (((Keeps.refl [] w).alloc (.cells #[.slice A t.cols.length c, .slice B t.rows.length d] 25)).trans hk2)
      obtain ⟨bt, hbt⟩ : ∃ bt, w.heap.size = bt := ⟨_, rfl⟩
      rw [hbt] at HB ⊢
      clear hk2 hbt
      go_wp2_with fail
      refine (HW.out _ HK.out).mono ?_
      rintro e w3 ⟨rfl, hk3⟩
      have HB3 := Lib.hid (HB.out.keep hk3 (by simp))
      have HK3 := Lib.hid (HK.out.trans hk3)
      clear hk3 HB HK
      have HIN3 := Lib.hid (HIN.out.1.quiet HK3.out)
      have HRD3 := Lib.hid (HIN.out.2.quiet HK3.out)
      have HE3 := Lib.hid (HE.out.quiet HK3.out)
      clear HIN HE HW HSM
      cases hp : parseL s with
      | bad x p =>
        have HP := Lib.hid (parse_bad hp (by omega) w3 HE3.out)
        clear hp
        go_wp2_with fail
        refine HP.out.mono ?_
        rintro e w4 ⟨g, rfl, _, hk4⟩
        have q0 : w4.cell? ⟨bt, 0, none⟩ = some (.slice A t.cols.length c) := (HB3.out.keep hk4 (by simp)).cell 0
        have q1 : w4.cell? ⟨bt, 1, none⟩ = some (.slice B t.rows.length d) := (HB3.out.keep hk4 (by simp)).cell 1
        have ql : bt < w4.heap.size := (HB3.out.keep hk4 (by simp)).lt
        have HK4 := Lib.hid hk4
        clear hk4
        cases hr : rightB t with
        | false =>
          have HPN := Lib.hid (print_bad hr (HIN3.out.quiet HK4.out))
          have HRN := Lib.hid (right_is hr (HIN3.out.quiet HK4.out))
          clear hr
          go_wp2_with fail
          refine (HPN.out _ ((Keeps.refl _ _).alloc _)).mono ?_
          rintro e w5 ⟨rfl, hk5⟩
          have HK5 := Lib.hid ((((Keeps.refl _ _).alloc _) : Keeps [] w4 _).trans hk5)
          have z0 := HK5.out.cell_of q0 (by simp)
          have z1 := HK5.out.cell_of q1 (by simp)
          clear hk5
          go_wp2_with fail
          refine (HRN.out _ HK5.out).mono ?_
          rintro e w6 ⟨rfl, hk6⟩
          go_wp2
          go_ret
          exact ⟨rfl, ((HK3.out.trans HK4.out).trans HK5.out).trans hk6⟩
        | true =>
          have HPN := Lib.hid (print_ok hr (HIN3.out.quiet HK4.out) (HE3.out.quiet HK4.out) rfl)
          have HPS := Lib.hid (parse_print hr)
          have hpl : (printL t).length ≤ 1000000 := printL_len hr
          clear hr
          generalize printL t = u at *
          go_wp2_with fail
          refine (HPN.out _ ((Keeps.refl _ _).alloc _)).mono ?_
          rintro e w5 ⟨rfl, hk5⟩
          have HK5 := Lib.hid ((((Keeps.refl _ _).alloc _) : Keeps [] w4 _).trans hk5)
          have z0 := HK5.out.cell_of q0 (by simp)
          have z1 := HK5.out.cell_of q1 (by simp)
          have zl : bt < w5.heap.size := Nat.lt_of_lt_of_le ql HK5.out.size
          have HP2 := Lib.hid (parse_ok HPS.out hpl w5 (HE3.out.quiet (HK4.out.trans HK5.out)))
          clear hk5
          go_wp2_with fail
          refine HP2.out.mono ?_
          rintro e w6 ⟨A6, B6, c6, d6, rfl, hT6, hk6⟩
          have y0 := hk6.cell_of z0 (by simp)
          have y1 := hk6.cell_of z1 (by simp)
          have yl : bt < w6.heap.size := Nat.lt_of_lt_of_le zl hk6.size
          have hrd : TabRd w6 t A6 B6 := ⟨hT6.cols, hT6.rows, hT6.ln, hT6.lm, hT6.lr⟩
          have HSA : Hid (∀ W, Keeps [] w6 W → Calls Tryz.prog 11 #[.agg #[.slice A6 t.cols.length c6, .slice B6 t.rows.length d6], .agg #[.slice A t.cols.length c, .slice B t.rows.length d]] W fun e W' => e = .returned (.bool true) ∧ Keeps [] W W') := Lib.hid fun W q => by
            have h := same_any t t A6 B6 A B c6 d6 c d W (hrd.quiet q) (HRD3.out.quiet (((HK4.out.trans HK5.out).trans hk6).trans q))
            rw [decide_eq_true rfl] at h
            exact h
          have HK6 := Lib.hid hk6
          clear hrd hT6 hk6 HP2 HPS
          go_wp2_with fail
          refine (HSA.out _ ((Keeps.refl _ _).alloc _)).mono ?_
          rintro e w7 ⟨rfl, hk7⟩
          go_wp2
          go_ret
          exact ⟨rfl, ((((HK3.out.trans HK4.out).trans HK5.out).trans HK6.out).alloc _).trans hk7⟩
      | ok y =>
        have HP := Lib.hid (parse_ok hp (by omega) w3 HE3.out)
        have hpp := print_parse hp
        have HPP := Lib.hid hpp
        clear hp hpp
        go_wp2_with fail
        refine HP.out.mono ?_
        rintro e w3' ⟨Ay, By, cy, dy, rfl, hTy, hk4⟩
        have q0 : w3'.cell? ⟨bt, 0, none⟩ = some (.slice A t.cols.length c) := (HB3.out.keep hk4 (by simp)).cell 0
        have q1 : w3'.cell? ⟨bt, 1, none⟩ = some (.slice B t.rows.length d) := (HB3.out.keep hk4 (by simp)).cell 1
        have ql : bt < w3'.heap.size := (HB3.out.keep hk4 (by simp)).lt
        have HPy := Lib.hid (print_ok HPP.out.1 hTy (HE3.out.quiet hk4) HPP.out.2)
        have HRy := Lib.hid (right_is HPP.out.1 hTy)
        have HK4' := Lib.hid hk4
        clear hk4 hTy
        go_wp2_with fail
        refine (HPy.out _ ((Keeps.refl _ _).alloc _)).mono ?_
        rintro e w5' ⟨rfl, hk5'⟩
        have r0 := hk5'.cell_of (p := ⟨w3'.heap.size, 0, none⟩) (v := .slice Ay y.cols.length cy) (by go_simp) (by simp)
        have r1 := hk5'.cell_of (p := ⟨w3'.heap.size, 1, none⟩) (v := .slice By y.rows.length dy) (by go_simp) (by simp)
        have HK5' := Lib.hid (((Keeps.refl [] w3').alloc (.cells #[.slice Ay y.cols.length cy, .slice By y.rows.length dy] 25)).trans hk5')
        clear hk5'
        go_wp2_with fail
        refine (HRy.out _ HK5'.out).mono ?_
        rintro e w4 ⟨rfl, hk6'⟩
        have HK4 := Lib.hid ((HK4'.out.trans HK5'.out).trans hk6')
        clear r0 r1 q0 q1 ql hk6' HPy HRy
        have q0 : w4.cell? ⟨bt, 0, none⟩ = some (.slice A t.cols.length c) := (HB3.out.keep HK4.out (by simp)).cell 0
        have q1 : w4.cell? ⟨bt, 1, none⟩ = some (.slice B t.rows.length d) := (HB3.out.keep HK4.out (by simp)).cell 1
        have ql : bt < w4.heap.size := (HB3.out.keep HK4.out (by simp)).lt
        cases hr : rightB t with
        | false =>
          have HPN := Lib.hid (print_bad hr (HIN3.out.quiet HK4.out))
          have HRN := Lib.hid (right_is hr (HIN3.out.quiet HK4.out))
          clear hr
          go_wp2_with fail
          refine (HPN.out _ (Keeps.refl _ _)).mono ?_
          rintro e w5 ⟨rfl, hk5⟩
          have HK5 := Lib.hid (((Keeps.refl _ _) : Keeps [] w4 _).trans hk5)
          have z0 := HK5.out.cell_of q0 (by simp)
          have z1 := HK5.out.cell_of q1 (by simp)
          clear hk5
          go_wp2_with fail
          refine (HRN.out _ HK5.out).mono ?_
          rintro e w6 ⟨rfl, hk6⟩
          go_wp2
          go_ret
          exact ⟨rfl, ((HK3.out.trans HK4.out).trans HK5.out).trans hk6⟩
        | true =>
          have HPN := Lib.hid (print_ok hr (HIN3.out.quiet HK4.out) (HE3.out.quiet HK4.out) rfl)
          have HPS := Lib.hid (parse_print hr)
          have hpl : (printL t).length ≤ 1000000 := printL_len hr
          clear hr
          generalize printL t = u at *
          go_wp2_with fail
          refine (HPN.out _ (Keeps.refl _ _)).mono ?_
          rintro e w5 ⟨rfl, hk5⟩
          have HK5 := Lib.hid (((Keeps.refl _ _) : Keeps [] w4 _).trans hk5)
          have z0 := HK5.out.cell_of q0 (by simp)
          have z1 := HK5.out.cell_of q1 (by simp)
          have zl : bt < w5.heap.size := Nat.lt_of_lt_of_le ql HK5.out.size
          have HP2 := Lib.hid (parse_ok HPS.out hpl w5 (HE3.out.quiet (HK4.out.trans HK5.out)))
          clear hk5
          go_wp2_with fail
          refine HP2.out.mono ?_
          rintro e w6 ⟨A6, B6, c6, d6, rfl, hT6, hk6⟩
          have y0 := hk6.cell_of z0 (by simp)
          have y1 := hk6.cell_of z1 (by simp)
          have yl : bt < w6.heap.size := Nat.lt_of_lt_of_le zl hk6.size
          have hrd : TabRd w6 t A6 B6 := ⟨hT6.cols, hT6.rows, hT6.ln, hT6.lm, hT6.lr⟩
          have HSA : Hid (∀ W, Keeps [] w6 W → Calls Tryz.prog 11 #[.agg #[.slice A6 t.cols.length c6, .slice B6 t.rows.length d6], .agg #[.slice A t.cols.length c, .slice B t.rows.length d]] W fun e W' => e = .returned (.bool true) ∧ Keeps [] W W') := Lib.hid fun W q => by
            have h := same_any t t A6 B6 A B c6 d6 c d W (hrd.quiet q) (HRD3.out.quiet (((HK4.out.trans HK5.out).trans hk6).trans q))
            rw [decide_eq_true rfl] at h
            exact h
          have HK6 := Lib.hid hk6
          clear hrd hT6 hk6 HP2 HPS
          go_wp2_with fail
          refine (HSA.out _ ((Keeps.refl _ _).alloc _)).mono ?_
          rintro e w7 ⟨rfl, hk7⟩
          go_wp2
          go_ret
          exact ⟨rfl, ((((HK3.out.trans HK4.out).trans HK5.out).trans HK6.out).alloc _).trans hk7⟩
end Go.Proofs.YtodjaomghmcoiaaGreatDoor
