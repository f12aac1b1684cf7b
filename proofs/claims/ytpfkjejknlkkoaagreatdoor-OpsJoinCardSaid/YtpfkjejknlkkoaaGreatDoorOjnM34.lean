/- foremankeep.small. slices.Equal over columns and over values, EqualFunc over rows; foremankeep.same. one, at tables whose array has just been made. -/
import Derived.Test.YtpfkjejknlkkoaaGreatDoorOjnM33
import Derived.Test.YtpfkjejknlkkoaaGreatDoorOjnM8
import Derived.Test.YtpfkjejknlkkoaaGreatDoorOjnM29
set_option linter.unusedSimpArgs false
set_option linter.unusedVariables false
namespace Go.Proofs.YtpfkjejknlkkoaaGreatDoor
open Go.RowKit
attribute [local go_sem] bs_size bs_extract bs_append bs_toList
def smallB (t : Tb) : Bool := !(decide (8 < t.cols.length) || decide (65 < t.rows.length) || t.cols.any (fun c => decide (40 < c.name.length))) && !(t.rows.any fun r => decide (8 < r.length) || r.any fun v => decide (40 < v.word.length))
theorem longC_any (c : Cl) (w : World) : Calls Tryz.prog 21 #[cAgg c] w fun e w' => e = .returned (.bool (decide (40 < c.name.length))) ∧ Keeps [] w w' := by
 obtain ⟨s, k⟩ := c
 show Calls _ _ #[.agg #[.string (bs s), .int .i64 k]] w _
 go_enter Tryz.func21, Tryz.ntmps21
 go_wp2
 go_ret
 exact ⟨congrArg (fun b => Ending.returned (.bool b)) (decide_eq_decide.2 (show ((40 : Int) < (s.length : Int)) ↔ 40 < s.length by omega)), (Keeps.refl _ _).alloc _⟩
theorem longV_any (v : Vl) (w : World) : Calls Tryz.prog 25 #[vAgg v] w fun e w' => e = .returned (.bool (decide (40 < v.word.length))) ∧ Keeps [] w w' := by
 obtain ⟨k, n, s⟩ := v
 show Calls _ _ #[.agg #[.int .i64 k, .int .i64 n, .string (bs s)]] w _
 go_enter Tryz.func25, Tryz.ntmps25
 go_wp2
 go_ret
 exact ⟨congrArg (fun b => Ending.returned (.bool b)) (decide_eq_decide.2 (show ((40 : Int) < (s.length : Int)) ↔ 40 < s.length by omega)), (Keeps.refl _ _).alloc _⟩
theorem longR_any (r : List Vl) (A : Option Addr) (c : Nat) (w : World) (hc : r.length ≤ c) (hR : Rd w [] 3 A r.length (vsCells r)) :
  Calls Tryz.prog 23 #[.slice A r.length c] w fun e w' => e = .returned (.bool (decide (8 < r.length) || r.any fun v => decide (40 < v.word.length))) ∧ Keeps [] w w' := by
 by_cases h : 8 < r.length
 ·have h1 : (8 : Int) < (r.length : Int) := by omega
  have HR : Hid ((decide (8 < r.length) || r.any fun v => decide (40 < v.word.length)) = true) := Lib.hid (by rw [decide_eq_true h]; rfl)
  rw [HR.out]
  clear hR h
  go_enter Tryz.func23, Tryz.ntmps23
  go_wp2
  go_ret
  exact ⟨rfl, Keeps.refl _ _⟩
 ·have h1 : ¬ (8 : Int) < (r.length : Int) := by omega
  have HC := Lib.hid (containsFuncV_any 25 #[] (enters_of Tryz.func25 (by kernel_rfl) rfl) (fun v => decide (40 < v.word.length)) r A c w hR (by omega) (fun v _ W _ => longV_any v W))
  rw [decide_eq_false h, Bool.false_or]
  generalize (r.any fun v => decide (40 < v.word.length)) = R at *
  clear hR h
  go_enter Tryz.func23, Tryz.ntmps23
  go_wp2_with (go_at_call 24; refine HC.out.mono ?_; rintro e W2 ⟨rfl, hk2⟩)
  go_ret
  exact ⟨rfl, hk2⟩
set_option maxHeartbeats 2000000 in
theorem small_any (t : Tb) (A B : Option Addr) (c d : Nat) (w : World) (hA : Rd w [] 2 A t.cols.length (csCells t.cols)) (hB : RdRows w [] B t.rows) :
  Calls Tryz.prog 5 #[tAgg A t.cols.length c B t.rows.length d] w fun e w' => e = .returned (.bool (smallB t)) ∧ Keeps [] w w' := by
 show Calls _ _ #[.agg #[.slice A t.cols.length c, .slice B t.rows.length d]] w _
 by_cases h8 : 8 < t.cols.length
 ·have h1 : (8 : Int) < (t.cols.length : Int) := by omega
  have HR : Hid (smallB t = false) := Lib.hid (by unfold smallB; rw [decide_eq_true h8]; rfl)
  clear hA hB h8
  go_enter Tryz.func5, Tryz.ntmps5
  go_wp2
  go_ret
  exact ⟨by rw [HR.out]; rfl, (Keeps.refl _ _).alloc _⟩
 ·have h1 : ¬ (8 : Int) < (t.cols.length : Int) := by omega
  by_cases h65 : 65 < t.rows.length
  ·have h2 : (65 : Int) < (t.rows.length : Int) := by omega
   have HR : Hid (smallB t = false) := Lib.hid (by unfold smallB; rw [decide_eq_true h65, Bool.or_true]; rfl)
   clear hA hB h8 h65
   go_enter Tryz.func5, Tryz.ntmps5
   go_wp2
   go_ret
   exact ⟨by rw [HR.out]; rfl, (Keeps.refl _ _).alloc _⟩
  ·have h2 : ¬ (65 : Int) < (t.rows.length : Int) := by omega
   have HC := Lib.hid (fun W (q : Keeps [] w W) => containsFuncC_any 21 #[] (enters_of Tryz.func21 (by kernel_rfl) rfl) (fun c => decide (40 < c.name.length)) t.cols A c W (hA.keep q) (by omega) (fun v _ W _ => longC_any v W))
   have HD := Lib.hid (fun W (q : Keeps [] w W) => containsFuncR_any 23 #[] (enters_of Tryz.func23 (by kernel_rfl) rfl) (fun r => decide (8 < r.length) || r.any fun v => decide (40 < v.word.length)) t.rows B d W (hB.keep q) (by omega) (fun r _ A c W _ hc hr => longR_any r A c W hc hr))
   have HR : Hid (smallB t = (!(t.cols.any (fun c => decide (40 < c.name.length))) && !(t.rows.any fun r => decide (8 < r.length) || r.any fun v => decide (40 < v.word.length)))) := Lib.hid (by unfold smallB; rw [decide_eq_false h65, decide_eq_false h8]; rfl)
   rw [HR.out]
   generalize (t.rows.any fun r => decide (8 < r.length) || r.any fun v => decide (40 < v.word.length)) = R at *
   generalize (t.cols.any (fun c => decide (40 < c.name.length))) = Q at *
   clear hA hB h8 h65
   cases Q with
   | true =>
    go_enter Tryz.func5, Tryz.ntmps5
    go_wp2_with (go_at_call 20; refine (HC.out _ ((Keeps.refl _ _).alloc _)).mono ?_; rintro e W2 ⟨rfl, hk2⟩)
    go_ret
    exact ⟨rfl, ((Keeps.refl _ _).alloc _).trans hk2⟩
   | false =>
    go_enter Tryz.func5, Tryz.ntmps5
    go_wp2_with (go_at_call 20; refine (HC.out _ ((Keeps.refl _ _).alloc _)).mono ?_; rintro e W2 ⟨rfl, hk2⟩; have q1 := hk2.cell_of (p := ⟨w.heap.size, 1, none⟩) (v := .slice B t.rows.length d) (by simp) (by simp))
    refine (HD.out _ (((Keeps.refl _ _).alloc _).trans hk2)).mono ?_
    rintro e W3 ⟨rfl, hk3⟩
    go_wp2
    go_ret
    exact ⟨rfl, (((Keeps.refl _ _).alloc _).trans hk2).trans hk3⟩
end Go.Proofs.YtpfkjejknlkkoaaGreatDoor
namespace Go.Proofs.YtpfkjejknlkkoaaGreatDoor
open Go.RowKit
attribute [local go_sem] bs_size bs_extract bs_append bs_toList
structure TabRd (w : World) (t : Tb) (A B : Option Addr) : Prop where
 cols : Rd w [] 2 A t.cols.length (csCells t.cols)
 rows : RdRows w [] B t.rows
 ln : t.cols.length ≤ 4294967296
 lm : t.rows.length ≤ 4294967296
 lr : ∀ r ∈ t.rows, r.length ≤ 4294967296
theorem TabRd.quiet {w w' : World} {t : Tb} {A B : Option Addr} (h : TabRd w t A B) (hk : Keeps [] w w') : TabRd w' t A B := ⟨h.cols.keep hk, h.rows.keep hk, h.ln, h.lm, h.lr⟩
end Go.Proofs.YtpfkjejknlkkoaaGreatDoor
namespace Go.Proofs.YtpfkjejknlkkoaaGreatDoor
open Go.RowKit
attribute [local go_sem] bs_size bs_extract bs_append bs_toList
theorem TabIn.of_is {w : World} {t : Tb} {A B : Option Addr} {c d : Nat} (h : TbIs w (.slice A t.cols.length c, .slice B t.rows.length d) t) (hb : TbB t) : TabIn w t A B c d := by
 obtain ⟨⟨A1, c1, e1, h1, h2⟩, ⟨B1, d1, e2, h3, h4⟩⟩ := h
 injection e1 with e1 _ e1c
 injection e2 with e2 _ e2c
 subst e1 e2 e1c e2c
 exact ⟨h2, h1, h4, h3, hb.names, hb.ln, hb.lm, hb.lr⟩
theorem TabIn.rd {w : World} {t : Tb} {A B : Option Addr} {c d : Nat} (h : TabIn w t A B c d) : TabRd w t A B := ⟨h.cols, h.rows, h.ln, h.lm, h.lr⟩
theorem TbB.of_right' {t : Tb} (h : rightB t = true) : TbB t := by
 obtain ⟨h1, h2, h3, _⟩ := rightB_of h
 refine ⟨fun x hx => ?_, by omega, by omega, fun r hr => by rw [row_len h r hr]; omega⟩
 obtain ⟨k, hk, rfl⟩ := List.getElem_of_mem hx
 have := nameB_len (okCol_of h1 hk).1
 omega
theorem rdTbs_blk2 {W : World} {b : Nat} {ty : TypeId} {t u : Tb} {A B A' B' : Option Addr} {c d c' d' : Nat} (h : Blk W b ty #[.slice A t.cols.length c, .slice B t.rows.length d, .slice A' u.cols.length c', .slice B' u.rows.length d']) (hT : TabIn W t A B c d) (hU : TabIn W u A' B' c' d') : RdTbs W (some ⟨b, 0, none⟩) [t, u] := by
 refine ⟨[(.slice A t.cols.length c, .slice B t.rows.length d), (.slice A' u.cols.length c', .slice B' u.rows.length d')], rfl, ⟨rfl, fun _ => ⟨_, rfl, by simp, h.lt, fun j x hx => ?_⟩⟩, fun i hi h' => ?_⟩
 ·rw [add_at, Nat.zero_add, h.cell j]
  simpa [flat2] using hx
 ·match i, hi with
  | 0, _ => exact ⟨⟨A, c, rfl, hT.cc, hT.cols⟩, ⟨B, d, rfl, hT.cd, hT.rows⟩⟩
  | 1, _ => exact ⟨⟨A', c', rfl, hU.cc, hU.cols⟩, ⟨B', d', rfl, hU.cd, hU.rows⟩⟩
end Go.Proofs.YtpfkjejknlkkoaaGreatDoor
