/- foremankeep.small. -/
import Derived.Test.YtodjaomghmcoiaaGreatDoorFind
namespace Go.Proofs.YtodjaomghmcoiaaGreatDoor
open Go.RowKit
attribute [local go_sem] bs_size bs_extract bs_append bs_toList
def smallB (t : Tb) : Bool := !(decide (8 < t.cols.length) || decide (65 < t.rows.length) || t.cols.any (fun c => decide (40 < c.name.length))) && !(t.rows.any fun r => decide (8 < r.length) || r.any fun v => decide (40 < v.word.length))
theorem longC_any (c : Cl) (w : World) : Calls Tryz.prog 35 #[cAgg c] w fun e w' => e = .returned (.bool (decide (40 < c.name.length))) ∧ Keeps [] w w' := by
  obtain ⟨s, k⟩ := c
  show Calls _ _ #[.agg #[.string (bs s), .int .i64 k]] w _
  go_enter Tryz.func35, Tryz.ntmps35
  go_wp2
  go_ret
  exact ⟨congrArg (fun b => Ending.returned (.bool b)) (decide_eq_decide.2 (show ((40 : Int) < (s.length : Int)) ↔ 40 < s.length by omega)), (Keeps.refl _ _).alloc _⟩
theorem longV_any (v : Vl) (w : World) : Calls Tryz.prog 39 #[vAgg v] w fun e w' => e = .returned (.bool (decide (40 < v.word.length))) ∧ Keeps [] w w' := by
  obtain ⟨k, n, s⟩ := v
  show Calls _ _ #[.agg #[.int .i64 k, .int .i64 n, .string (bs s)]] w _
  go_enter Tryz.func39, Tryz.ntmps39
  go_wp2
  go_ret
  exact ⟨congrArg (fun b => Ending.returned (.bool b)) (decide_eq_decide.2 (show ((40 : Int) < (s.length : Int)) ↔ 40 < s.length by omega)), (Keeps.refl _ _).alloc _⟩
theorem longR_any (r : List Vl) (A : Option Addr) (c : Nat) (w : World) (hc : r.length ≤ c) (hR : Rd w [] 3 A r.length (vsCells r)) :
    Calls Tryz.prog 37 #[.slice A r.length c] w fun e w' => e = .returned (.bool (decide (8 < r.length) || r.any fun v => decide (40 < v.word.length))) ∧ Keeps [] w w' := by
  by_cases h : 8 < r.length
  · have h1 : (8 : Int) < (r.length : Int) := by omega
    have HR : Hid ((decide (8 < r.length) || r.any fun v => decide (40 < v.word.length)) = true) := Lib.hid (by rw [decide_eq_true h]; rfl)
    rw [HR.out]
    clear hR h
    go_enter Tryz.func37, Tryz.ntmps37
    go_wp2
    go_ret
    exact ⟨rfl, Keeps.refl _ _⟩
  · have h1 : ¬ (8 : Int) < (r.length : Int) := by omega
    have HC := Lib.hid (containsFuncV_any 39 #[] (enters_of Tryz.func39 (by kernel_rfl) rfl) (fun v => decide (40 < v.word.length)) r A c w hR (by omega) (fun v _ W _ => longV_any v W))
    rw [decide_eq_false h, Bool.false_or]
    generalize (r.any fun v => decide (40 < v.word.length)) = R at *
    clear hR h
    go_enter Tryz.func37, Tryz.ntmps37
    go_wp2_with (go_at_call 38; refine HC.out.mono ?_; rintro e W2 ⟨rfl, hk2⟩)
    go_ret
    exact ⟨rfl, hk2⟩
set_option maxHeartbeats 2000000 in
theorem small_any (t : Tb) (A B : Option Addr) (c d : Nat) (w : World) (hA : Rd w [] 2 A t.cols.length (csCells t.cols)) (hB : RdRows w [] B t.rows) :
    Calls Tryz.prog 6 #[tAgg A t.cols.length c B t.rows.length d] w fun e w' => e = .returned (.bool (smallB t)) ∧ Keeps [] w w' := by
  show Calls _ _ #[.agg #[.slice A t.cols.length c, .slice B t.rows.length d]] w _
  by_cases h8 : 8 < t.cols.length
  · have h1 : (8 : Int) < (t.cols.length : Int) := by omega
    have HR : Hid (smallB t = false) := Lib.hid (by unfold smallB; rw [decide_eq_true h8]; rfl)
    clear hA hB h8
    go_enter Tryz.func6, Tryz.ntmps6
    go_wp2
    go_ret
    exact ⟨by rw [HR.out]; rfl, (Keeps.refl _ _).alloc _⟩
  · have h1 : ¬ (8 : Int) < (t.cols.length : Int) := by omega
    by_cases h65 : 65 < t.rows.length
    · have h2 : (65 : Int) < (t.rows.length : Int) := by omega
      have HR : Hid (smallB t = false) := Lib.hid (by unfold smallB; rw [decide_eq_true h65, Bool.or_true]; rfl)
      clear hA hB h8 h65
      go_enter Tryz.func6, Tryz.ntmps6
      go_wp2
      go_ret
      exact ⟨by rw [HR.out]; rfl, (Keeps.refl _ _).alloc _⟩
    · have h2 : ¬ (65 : Int) < (t.rows.length : Int) := by omega
      have HC := Lib.hid (fun W (q : Keeps [] w W) => containsFuncC_any 35 #[] (enters_of Tryz.func35 (by kernel_rfl) rfl) (fun c => decide (40 < c.name.length)) t.cols A c W (hA.keep q) (by omega) (fun v _ W _ => longC_any v W))
      have HD := Lib.hid (fun W (q : Keeps [] w W) => containsFuncR_any 37 #[] (enters_of Tryz.func37 (by kernel_rfl) rfl) (fun r => decide (8 < r.length) || r.any fun v => decide (40 < v.word.length)) t.rows B d W (hB.keep q) (by omega) (fun r _ A c W _ hc hr => longR_any r A c W hc hr))
      have HR : Hid (smallB t = (!(t.cols.any (fun c => decide (40 < c.name.length))) && !(t.rows.any fun r => decide (8 < r.length) || r.any fun v => decide (40 < v.word.length)))) := Lib.hid (by unfold smallB; rw [decide_eq_false h65, decide_eq_false h8]; rfl)
      rw [HR.out]
      generalize (t.rows.any fun r => decide (8 < r.length) || r.any fun v => decide (40 < v.word.length)) = R at *
      generalize (t.cols.any (fun c => decide (40 < c.name.length))) = Q at *
      clear hA hB h8 h65
      cases Q with
      | true =>
        go_enter Tryz.func6, Tryz.ntmps6
        go_wp2_with (go_at_call 34; refine (HC.out _ ((Keeps.refl _ _).alloc _)).mono ?_; rintro e W2 ⟨rfl, hk2⟩)
        go_ret
        exact ⟨rfl, ((Keeps.refl _ _).alloc _).trans hk2⟩
      | false =>
        go_enter Tryz.func6, Tryz.ntmps6
        go_wp2_with (go_at_call 34; refine (HC.out _ ((Keeps.refl _ _).alloc _)).mono ?_; rintro e W2 ⟨rfl, hk2⟩; have q1 := hk2.cell_of (p := ⟨w.heap.size, 1, none⟩) (v := .slice B t.rows.length d) (by simp) (by simp))
        refine (HD.out _ (((Keeps.refl _ _).alloc _).trans hk2)).mono ?_
        rintro e W3 ⟨rfl, hk3⟩
        go_wp2
        go_ret
        exact ⟨rfl, (((Keeps.refl _ _).alloc _).trans hk2).trans hk3⟩
end Go.Proofs.YtodjaomghmcoiaaGreatDoor
