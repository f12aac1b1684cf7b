/- table.Right. -/
import Derived.Test.YtodjaomghmcoiaaGreatDoorCols
namespace Go.Proofs.YtodjaomghmcoiaaGreatDoor
open Go.RowKit
attribute [local go_sem] bs_size bs_extract bs_append bs_toList
theorem rowB_false {cs : List Cl} {r : List Vl} {n : Nat} (h : n < r.length) (hb : okAt cs r n = false) : rowB cs r = false := by
  unfold rowB
  have : (List.range r.length).all (okAt cs r) = false := by
    rw [List.all_eq_false]
    exact ⟨n, List.mem_range.2 h, by rw [hb]; decide⟩
  rw [this, Bool.and_false]
theorem rightB_false {t : Tb} {n : Nat} (h : n < t.rows.length) (hb : rowB t.cols t.rows[n] = false) : rightB t = false := by
  unfold rightB
  have : t.rows.all (rowB t.cols) = false := by
    rw [List.all_eq_false]
    exact ⟨_, List.getElem_mem h, by rw [hb]; decide⟩
  rw [this, Bool.and_false]
def tAgg (A : Option Addr) (n c : Nat) (B : Option Addr) (m d : Nat) : Value := .agg #[.slice A n c, .slice B m d]
set_option maxRecDepth 100000 in
set_option maxHeartbeats 4000000 in
theorem right_any (t : Tb) (A B : Option Addr) (c d : Nat) (w : World) (hA : Rd w [] 2 A t.cols.length (csCells t.cols)) (hc : t.cols.length ≤ c) (hB : RdRows w [] B t.rows) (hn : ∀ x ∈ t.cols, x.name.length ≤ 1000000000) (hl : t.cols.length ≤ 4294967296) (hm : t.rows.length ≤ 4294967296) (hr : ∀ r ∈ t.rows, r.length ≤ 4294967296) :
    Calls Tryz.prog 10 #[tAgg A t.cols.length c B t.rows.length d] w fun e w' => e = .returned (.bool (rightB t)) ∧ Keeps [] w w' := by
  have hcols := fun W (q : Keeps [] w W) => rightCols_any t.cols A c W (hA.keep q) hc hn hl
  have HA := Lib.hid hA
  have HB := Lib.hid hB
  have HRR := Lib.hid hr
  clear hA hB hn hr
  show Calls _ _ #[.agg #[.slice A t.cols.length c, .slice B t.rows.length d]] w _
  cases h1 : colsB t.cols with
  | false =>
    rw [h1] at hcols
    have HC := Lib.hid hcols
    have HF : Hid (rightB t = false) := Lib.hid (by unfold rightB; rw [h1]; rfl)
    clear hcols h1
    go_enter Tryz.func10, Tryz.ntmps10
    go_wp2_with (go_at_call 18; refine (HC.out _ ((Keeps.refl _ _).alloc _)).mono ?_; rintro e w5 ⟨rfl, hk5⟩)
    go_ret
    exact ⟨by rw [HF.out]; rfl, ((Keeps.refl _ _).alloc _).trans hk5⟩
  | true =>
    rw [h1] at hcols
    have HC := Lib.hid hcols
    have HC1 := Lib.hid h1
    clear hcols h1
    by_cases h2 : t.rows.length ≤ 60
    · have h2' : ¬ ((60 : Int) < (t.rows.length : Int)) := by omega
      go_enter Tryz.func10, Tryz.ntmps10
      go_wp2_with (go_at_call 18; refine (HC.out _ ((Keeps.refl _ _).alloc _)).mono ?_; rintro e w5 ⟨rfl, hk5⟩; have q0 := hk5.cell_of (p := ⟨w.heap.size, 0, none⟩) (v := .slice A t.cols.length c) (by simp) (by simp); have q1 := hk5.cell_of (p := ⟨w.heap.size, 1, none⟩) (v := .slice B t.rows.length d) (by simp) (by simp))
      obtain ⟨bt, hbt⟩ : ∃ bt, w.heap.size = bt := ⟨_, rfl⟩
      have HK5 := Lib.hid (((Keeps.refl [] w).alloc (.cells #[.slice A t.cols.length c, .slice B t.rows.length d] 25)).trans hk5)
      rw [hbt] at q0 q1 ⊢
      have Q0 := Lib.hid q0
      have Q1 := Lib.hid q1
      clear hk5 hbt q0 q1
      go_loopw [20] (fun i wr => ∃ n : Nat, n ≤ t.rows.length ∧ i = .int .i64 n ∧ Hid (∀ j (hj : j < n) (hl : j < t.rows.length), rowB t.cols t.rows[j] = true) ∧ Keeps [] w5 wr) (fun i _ => t.rows.length - (intOf i).toNat)
      case atStart => exact ⟨0, Nat.zero_le _, rfl, fun j hj => absurd hj (by omega), Keeps.refl _ _⟩
      case round =>
        obtain ⟨n, hn, rfl, hno, hk⟩ := hrel
        by_cases hlt : n < t.rows.length
        · obtain ⟨us, hul, hu1, hu2⟩ := (HB.out.keep HK5.out).keep hk
          obtain ⟨b, o, rfl, _, hb, hcs⟩ := hu1.open' (by omega) (by omega)
          have d1 := hcs n _ (List.getElem?_eq_getElem (by omega))
          obtain ⟨Ar, cr, hue, hcr, hRr⟩ := hu2 n (by omega) hlt
          rw [hue] at d1
          have q0 := hk.cell_of Q0.out (by simp)
          have q1 := hk.cell_of Q1.out (by simp)
          have hrl4 := HRR.out _ (List.getElem_mem hlt)
          have hbad : rowB t.cols t.rows[n] = false → Hid (rightB t = false) := fun h => Lib.hid (rightB_false hlt h)
          have HROW : Hid (∀ r, t.rows[n] = r → rowB t.cols r = true → ∀ j (hj : j < n + 1) (hl : j < t.rows.length), rowB t.cols t.rows[j] = true) := fun r e hr j hj hl => by
            by_cases h : j < n
            · exact hno.out j h hl
            · obtain rfl : j = n := by omega
              rw [e]; exact hr
          generalize hr : t.rows[n] = r at *
          have HBAD := Lib.hid hbad
          have HNX := HROW.out r rfl
          have HNX := Lib.hid HNX
          clear hno hcs hu1 hu2 hue hul hbad HROW hr
          by_cases hrl : r.length = t.cols.length
          · have hb1 : ((r.length : Int) != (t.cols.length : Int)) = false := by simp [hrl]
            have HRL := Lib.hid hrl
            obtain ⟨wo, hwo⟩ : ∃ wo : World, wo = wr := ⟨_, rfl⟩
            subst hwo
            have hlc : r.length ≤ t.cols.length := by omega
            clear hrl
            go_wp2
            go_loopw [32] (fun i wr => ∃ m : Nat, m ≤ r.length ∧ i = .int .i64 m ∧ Hid (∀ j, j < m → okAt t.cols r j = true) ∧ Keeps [] wo wr) (fun i _ => r.length - (intOf i).toNat)
            case atStart => exact ⟨0, Nat.zero_le _, rfl, fun j hj => absurd hj (by omega), Keeps.refl _ _⟩
            case round =>
              obtain ⟨m, hm, rfl, hok, hk2⟩ := hrel
              by_cases hlt2 : m < r.length
              · obtain ⟨b2, o2, rfl, _, hb2, hcs2⟩ := (hRr.keep hk2).open' (by omega) (by omega)
                have e1 := hcs2 (m * 3) _ (vsCells_at r m hlt2).1
                have e2 := hcs2 (m * 3 + 1) _ (vsCells_at r m hlt2).2.1
                have e3 := hcs2 (m * 3 + 2) _ (vsCells_at r m hlt2).2.2
                rw [← Nat.add_assoc] at e2 e3
                obtain ⟨b3, o3, hA3, _, hb3, hcs3⟩ := (((HA.out.keep HK5.out).keep hk).keep hk2).open' (by omega) (by omega)
                have f1 := hcs3 (m * 2 + 1) _ (csCells_at t.cols m (by omega)).2
                rw [← Nat.add_assoc] at f1
                have hokm : okAt t.cols r m = (decide (r[m].kind = (t.cols[m]'(by omega)).kind) && rvB r[m]) := by unfold okAt; rw [List.getElem?_eq_getElem hlt2, List.getElem?_eq_getElem (by omega)]
                have q0 := hk2.cell_of q0 (by simp)
                generalize r[m] = x at *
                generalize (t.cols[m]'(by omega)).kind = ck at *
                obtain ⟨xk, xn, xs⟩ := x
                subst hA3
                simp only at e1 e2 e3 hokm
                have HBA : Hid (okAt t.cols r m = false → Hid (rightB t = false)) := Lib.hid (fun h => HBAD.out (rowB_false hlt2 h))
                have HK2 := Lib.hid hk2
                have hmc : m < t.cols.length := by omega
                clear hcs2 hcs3 hk2
                have hbt : bt < wr.heap.size := World.block_lt_of_cell? wr _ q0
                have hrv := rightValue_any ⟨xk, xn, xs⟩
                have hal := fun o => (Keeps.refl [] wr).alloc o
                have G : Hid ((wr.alloc (.cells #[.int .i64 xk, .int .i64 xn, .string (bs xs)] 41)).drew.cell? ⟨wr.heap.size, 0, none⟩ = some (.int .i64 xk) ∧ (wr.alloc (.cells #[.int .i64 xk, .int .i64 xn, .string (bs xs)] 41)).drew.cell? ⟨wr.heap.size, 1, none⟩ = some (.int .i64 xn) ∧ (wr.alloc (.cells #[.int .i64 xk, .int .i64 xn, .string (bs xs)] 41)).drew.cell? ⟨wr.heap.size, 2, none⟩ = some (.string (bs xs)) ∧ (wr.alloc (.cells #[.int .i64 xk, .int .i64 xn, .string (bs xs)] 41)).drew.cell? ⟨bt, 0, none⟩ = some (.slice (some ⟨b3, o3, none⟩) t.cols.length c) ∧ (wr.alloc (.cells #[.int .i64 xk, .int .i64 xn, .string (bs xs)] 41)).drew.cell? ⟨b3, o3 + m * 2 + 1, none⟩ = some (.int .i64 ck)) := Lib.hid ⟨by simp, by simp, by simp, (hal _).cell_of (p := ⟨bt, 0, none⟩) q0 (by simp), (hal _).cell_of (p := ⟨b3, o3 + m * 2 + 1, none⟩) f1 (by simp)⟩
                clear hal
                by_cases hkk : xk = ck
                · subst hkk
                  have hz : (xk != xk) = false := by simp
                  have hokm' : okAt t.cols r m = rvB ⟨xk, xn, xs⟩ := by rw [hokm, decide_eq_true rfl, Bool.true_and]
                  cases hb : rvB ⟨xk, xn, xs⟩ with
                  | true =>
                    rw [hb] at hrv hokm'
                    have HRV := Lib.hid hrv
                    have hok' : Hid (∀ j, j < m + 1 → okAt t.cols r j = true) := fun j hj => by
                      by_cases h : j < m
                      · exact hok.out j h
                      · obtain rfl : j = m := by omega
                        exact hokm'
                    clear hrv hokm hokm' hb
                    go_wp2_with fail
                    go_region_held3 (fun w' => w'.cell? ⟨wr.heap.size, 0, none⟩ = some (.int .i64 xk) ∧ w'.cell? ⟨wr.heap.size, 1, none⟩ = some (.int .i64 xn) ∧ w'.cell? ⟨wr.heap.size, 2, none⟩ = some (.string (bs xs)) ∧ w'.cell? ⟨bt, 0, none⟩ = some (.slice (some ⟨b3, o3, none⟩) t.cols.length c) ∧ w'.cell? ⟨b3, o3 + m * 2 + 1, none⟩ = some (.int .i64 xk)) (first | exact G.out | exact ⟨hk6.cell_of G.out.1 (by simp), hk6.cell_of G.out.2.1 (by simp), hk6.cell_of G.out.2.2.1 (by simp), hk6.cell_of G.out.2.2.2.1 (by simp), hk6.cell_of G.out.2.2.2.2 (by simp)⟩ | go_keep) (first | (go_at_call 16; refine (HRV.out _).mono ?_; rintro e w6 ⟨rfl, hk6⟩))
                    all_goals go_wp2
                    all_goals have K6 := Lib.hid ((HK2.out.alloc _).drew.trans hk6)
                    all_goals clear hk6
                    all_goals go_roundw
                    case rel => exact ⟨m + 1, by omega, by go_num, hok', K6.out⟩
                    case measure => simp [intOf]; omega
                  | false =>
                    rw [hb] at hrv hokm'
                    have HRV := Lib.hid hrv
                    have HF := HBA.out hokm'
                    clear hrv hokm hokm' hb
                    go_wp2_with fail
                    go_region_held3 (fun w' => w'.cell? ⟨wr.heap.size, 0, none⟩ = some (.int .i64 xk) ∧ w'.cell? ⟨wr.heap.size, 1, none⟩ = some (.int .i64 xn) ∧ w'.cell? ⟨wr.heap.size, 2, none⟩ = some (.string (bs xs)) ∧ w'.cell? ⟨bt, 0, none⟩ = some (.slice (some ⟨b3, o3, none⟩) t.cols.length c) ∧ w'.cell? ⟨b3, o3 + m * 2 + 1, none⟩ = some (.int .i64 xk)) (first | exact G.out | exact ⟨hk6.cell_of G.out.1 (by simp), hk6.cell_of G.out.2.1 (by simp), hk6.cell_of G.out.2.2.1 (by simp), hk6.cell_of G.out.2.2.2.1 (by simp), hk6.cell_of G.out.2.2.2.2 (by simp)⟩ | go_keep) (first | (go_at_call 16; refine (HRV.out _).mono ?_; rintro e w6 ⟨rfl, hk6⟩))
                    all_goals go_wp2
                    all_goals go_ret
                    all_goals exact ⟨by rw [HF.out]; rfl, (HK5.out.trans hk).trans ((HK2.out.alloc _).drew.trans hk6)⟩
                · have hz : (xk != ck) = true := by rw [bne_iff_ne]; exact hkk
                  have HF := HBA.out (by rw [hokm, decide_eq_false hkk, Bool.false_and])
                  clear hrv hokm hkk
                  go_wp2_with fail
                  go_quiet (fail)
                  all_goals go_wp2
                  all_goals go_ret
                  all_goals exact ⟨by rw [HF.out]; rfl, (HK5.out.trans hk).trans ((HK2.out.alloc _).drewN _)⟩
              · have hrow := Lib.hid (HNX.out (by
                  unfold rowB
                  rw [decide_eq_true HRL.out, Bool.true_and, List.all_eq_true]
                  intro j hj
                  exact hok.out j (by have := List.mem_range.1 hj; omega)))
                have HKK := Lib.hid (hk.trans hk2)
                clear hk2 hok
                go_wp2
                go_roundw
                case rel => exact ⟨n + 1, by omega, by go_num, hrow, HKK.out⟩
                case measure => simp [intOf]; omega
          · have hb1 : ((r.length : Int) != (t.cols.length : Int)) = true := by rw [bne_iff_ne]; omega
            have HF := HBAD.out (by unfold rowB; rw [decide_eq_false hrl, Bool.false_and])
            clear hrl
            go_wp2
            go_ret
            exact ⟨by rw [HF.out]; rfl, HK5.out.trans hk⟩
        · have hfin : Hid (rightB t = true) := Lib.hid (by
            unfold rightB
            rw [HC1.out, decide_eq_true h2, Bool.and_self, Bool.true_and, List.all_eq_true]
            intro r hr
            obtain ⟨j, hj, rfl⟩ := List.getElem_of_mem hr
            exact hno.out j (by omega) hj)
          go_wp2
          go_ret
          exact ⟨by rw [hfin.out]; rfl, HK5.out.trans hk⟩
    · have h2' : (60 : Int) < (t.rows.length : Int) := by omega
      have HF : Hid (rightB t = false) := Lib.hid (by unfold rightB; rw [decide_eq_false h2, Bool.and_false, Bool.false_and])
      clear h2
      go_enter Tryz.func10, Tryz.ntmps10
      go_wp2_with (go_at_call 18; refine (HC.out _ ((Keeps.refl _ _).alloc _)).mono ?_; rintro e w5 ⟨rfl, hk5⟩; have q1 := hk5.cell_of (p := ⟨w.heap.size, 1, none⟩) (v := .slice B t.rows.length d) (by simp) (by simp))
      go_ret
      exact ⟨by rw [HF.out]; rfl, ((Keeps.refl _ _).alloc _).trans hk5⟩
end Go.Proofs.YtodjaomghmcoiaaGreatDoor
