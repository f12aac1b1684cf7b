/- The reference's Right. strings.Builder, at this program: WriteString, String. table.Value. -/
import Derived.Test.YtpagiajlefejcaaGreatDoorTbrM3
import Derived.Test.YtpagiajlefejcaaGreatDoorTbrM6
import Derived.Test.YtpagiajlefejcaaGreatDoorTbrM5
import Derived.Test.YtpagiajlefejcaaGreatDoorProg
import Derived.Test.YtpagiajlefejcaaGreatDoorTbrM1
import Derived.Shelf.Strings.Builder1
import Derived.Lib.OthersKept
import Derived.Test.YtpagiajlefejcaaGreatDoorShTab
import Derived.Sort.Grow
import Derived.Lib.ItoaLen
set_option linter.unusedSimpArgs false
set_option linter.unusedVariables false
namespace Go.Proofs.YtpagiajlefejcaaGreatDoor
open Go.RowKit Go.BigFrame
attribute [local go_sem] bs_size bs_extract bs_append bs_toList KW.cell
set_option maxRecDepth 100000 in
set_option maxHeartbeats 4000000 in
theorem rRight_any (t : Tb) (A B : Option Addr) (c d : Nat) (w : World) (hA : Rd w [] 2 A t.cols.length (csCells t.cols)) (hB : RdRows w [] B t.rows) (hn : ∀ x ∈ t.cols, x.name.length ≤ 1000000) (hl : t.cols.length ≤ 1000000) (hm : t.rows.length ≤ 4294967296) (hr : ∀ r ∈ t.rows, r.length ≤ 4294967296) (hww : ∀ r ∈ t.rows, ∀ v ∈ r, v.word.length ≤ 1000000) :
  Calls Tryz.prog 13 #[tAgg A t.cols.length c B t.rows.length d] w fun e w' => e = .returned (.bool (rightB t)) ∧ Keeps [] w w' := by
 have hcols := fun W (q : Keeps [] w W) => rRightCols_any t.cols A c W (hA.keep q) hn hl
 have HA := Lib.hid hA
 have HB := Lib.hid hB
 have HRR := Lib.hid hr
 have HWW := Lib.hid hww
 clear hA hB hn hr hww
 show Calls _ _ #[.agg #[.slice A t.cols.length c, .slice B t.rows.length d]] w _
 cases h1 : colsB t.cols with
 | false =>
  rw [h1] at hcols
  have HC := Lib.hid hcols
  have HF : Hid (rightB t = false) := Lib.hid (by unfold rightB; rw [h1]; rfl)
  clear hcols h1
  go_enter Tryz.func13, Tryz.ntmps13
  go_wp2_with (go_at_call 11; refine (HC.out _ ((Keeps.refl _ _).alloc _)).mono ?_; rintro e w5 ⟨rfl, hk5⟩)
  go_ret
  exact ⟨by rw [HF.out]; rfl, ((Keeps.refl _ _).alloc _).trans hk5⟩
 | true =>
  rw [h1] at hcols
  have HC := Lib.hid hcols
  have HC1 := Lib.hid h1
  clear hcols h1
  by_cases h2 : t.rows.length ≤ 60
  ·have h2' : ¬ ((60 : Int) < (t.rows.length : Int)) := by omega
   go_enter Tryz.func13, Tryz.ntmps13
   go_wp2_with (go_at_call 11; refine (HC.out _ ((Keeps.refl _ _).alloc _)).mono ?_; rintro e w5 ⟨rfl, hk5⟩; have q0 := hk5.cell_of (p := ⟨w.heap.size, 0, none⟩) (v := .slice A t.cols.length c) (by simp) (by simp); have q1 := hk5.cell_of (p := ⟨w.heap.size, 1, none⟩) (v := .slice B t.rows.length d) (by simp) (by simp))
   obtain ⟨bt, hbt⟩ : ∃ bt, w.heap.size = bt := ⟨_, rfl⟩
   have HK5 := Lib.hid (((Keeps.refl [] w).alloc (.cells #[.slice A t.cols.length c, .slice B t.rows.length d] 25)).trans hk5)
   rw [hbt] at q0 q1 ⊢
   have Q0 := Lib.hid q0
   have Q1 := Lib.hid q1
   clear hk5 hbt q0 q1
   go_loopw [20] (fun i wr => ∃ n : Nat, n ≤ t.rows.length ∧ i = .int .i64 n ∧ Hid (∀ j (hj : j < n) (hl : j < t.rows.length), rowB t.cols t.rows[j] = true) ∧ Keeps [] w5 wr) (fun i _ => t.rows.length - (intOf i).toNat)
   case atStart => exact ⟨0, Nat.zero_le _, rfl, fun j hj => absurd hj (by omega), Keeps.refl _ _⟩
   case round =>
    obtain ⟨n, hn, rfl, hno, hk⟩ := hrel
    by_cases hlt : n < t.rows.length
    ·obtain ⟨us, hul, hu1, hu2⟩ := (HB.out.keep HK5.out).keep hk
     obtain ⟨b, o, rfl, _, hb, hcs⟩ := hu1.open' (by omega) (by omega)
     have d1 := hcs n _ (List.getElem?_eq_getElem (by omega))
     obtain ⟨Ar, cr, hue, hcr, hRr⟩ := hu2 n (by omega) hlt
     rw [hue] at d1
     have q0 := hk.cell_of Q0.out (by simp)
     have q1 := hk.cell_of Q1.out (by simp)
     have hrl4 := HRR.out _ (List.getElem_mem hlt)
     have hwl4 := HWW.out _ (List.getElem_mem hlt)
     have hbad : rowB t.cols t.rows[n] = false → Hid (rightB t = false) := fun h => Lib.hid (rightB_false hlt h)
     have HROW : Hid (∀ r, t.rows[n] = r → rowB t.cols r = true → ∀ j (hj : j < n + 1) (hl : j < t.rows.length), rowB t.cols t.rows[j] = true) := fun r e hr j hj hl => by
      by_cases h : j < n
      ·exact hno.out j h hl
      ·obtain rfl : j = n := by omega
       rw [e]; exact hr
     generalize hr : t.rows[n] = r at *
     have HBAD := Lib.hid hbad
     have HNX := HROW.out r rfl
     have HNX := Lib.hid HNX
     clear hno hcs hu1 hu2 hue hul hbad HROW hr
     by_cases hrl : r.length = t.cols.length
     ·have hb1 : ((r.length : Int) != (t.cols.length : Int)) = false := by simp [hrl]
      have HRL := Lib.hid hrl
      obtain ⟨wo, hwo⟩ : ∃ wo : World, wo = wr := ⟨_, rfl⟩
      subst hwo
      have hlc : r.length ≤ t.cols.length := by omega
      clear hrl
      go_wp2
      go_loopw [32] (fun i wr => ∃ m : Nat, m ≤ r.length ∧ i = .int .i64 m ∧ Hid (∀ j, j < m → okAt t.cols r j = true) ∧ Keeps [] wo wr) (fun i _ => r.length - (intOf i).toNat)
      case atStart => exact ⟨0, Nat.zero_le _, rfl, fun j hj => absurd hj (by omega), Keeps.refl _ _⟩
      case round =>
       obtain ⟨m, hm, rfl, hok, hk2⟩ := hrel
       by_cases hlt2 : m < r.length
       ·obtain ⟨b2, o2, rfl, _, hb2, hcs2⟩ := (hRr.keep hk2).open' (by omega) (by omega)
        have e1 := hcs2 (m * 3) _ (vsCells_at r m hlt2).1
        have e2 := hcs2 (m * 3 + 1) _ (vsCells_at r m hlt2).2.1
        have e3 := hcs2 (m * 3 + 2) _ (vsCells_at r m hlt2).2.2
        rw [← Nat.add_assoc] at e2 e3
        obtain ⟨b3, o3, hA3, _, hb3, hcs3⟩ := (((HA.out.keep HK5.out).keep hk).keep hk2).open' (by omega) (by omega)
        have f1 := hcs3 (m * 2 + 1) _ (csCells_at t.cols m (by omega)).2
        rw [← Nat.add_assoc] at f1
        have hokm : okAt t.cols r m = (decide (r[m].kind = (t.cols[m]'(by omega)).kind) && rvB r[m]) := by unfold okAt; rw [List.getElem?_eq_getElem hlt2, List.getElem?_eq_getElem (by omega)]
        have q0 := hk2.cell_of q0 (by simp)
        have hwx := hwl4 _ (List.getElem_mem hlt2)
        generalize r[m] = x at *
        generalize (t.cols[m]'(by omega)).kind = ck at *
        obtain ⟨xk, xn, xs⟩ := x
        subst hA3
        simp only at e1 e2 e3 hokm hwx
        have HBA : Hid (okAt t.cols r m = false → Hid (rightB t = false)) := Lib.hid (fun h => HBAD.out (rowB_false hlt2 h))
        have HK2 := Lib.hid hk2
        have hmc : m < t.cols.length := by omega
        clear hcs2 hcs3 hk2
        have hbt : bt < wr.heap.size := World.block_lt_of_cell? wr _ q0
        have hal := (Keeps.refl [] wr).alloc (.cells #[.int .i64 xk, .int .i64 xn, .string (bs xs)] 27)
        have hbx := Blk.new wr 27 #[.int .i64 xk, .int .i64 xn, .string (bs xs)]
        have G3 := hal.cell_of (p := ⟨bt, 0, none⟩) q0 (by simp)
        have G4 := hal.cell_of (p := ⟨b3, o3 + m * 2 + 1, none⟩) f1 (by simp)
        have HRV : Hid (∀ W, Keeps [] (wr.alloc (.cells #[.int .i64 xk, .int .i64 xn, .string (bs xs)] 27)) W → Calls Tryz.prog 9 #[.agg #[.int .i64 xk, .int .i64 xn, .string (bs xs)]] W fun e W' => e = .returned (.bool (rvB ⟨xk, xn, xs⟩)) ∧ Keeps [] W W') := Lib.hid (fun W _ => rRightValue_any ⟨xk, xn, xs⟩ (Nat.le_trans hwx (by decide)) W)
        go_upto_region 11 with (fail)
        generalize hzz : wr.alloc (.cells #[.int .i64 xk, .int .i64 xn, .string (bs xs)] 27) = z at hal hbx G3 G4 HRV ⊢
        have HK3 := Lib.hid (HK2.out.trans hal)
        have G0 : z.cell? ⟨wr.heap.size, 0, none⟩ = some (.int .i64 xk) := hbx.cell 0
        have G1 : z.cell? ⟨wr.heap.size, 1, none⟩ = some (.int .i64 xn) := hbx.cell 1
        have G2 : z.cell? ⟨wr.heap.size, 2, none⟩ = some (.string (bs xs)) := hbx.cell 2
        have l0 := hbx.lt
        have l1 : bt < z.heap.size := World.block_lt_of_cell? z _ G3
        have l2 : b3 < z.heap.size := World.block_lt_of_cell? z _ G4
        clear hzz hal hbx q0 e1 e2 e3 f1 hbt
        obtain ⟨rv, hrv⟩ : ∃ rv, rvB ⟨xk, xn, xs⟩ = rv := ⟨_, rfl⟩
        rw [hrv] at HRV hokm
        clear hrv
        cases rv with
        | false =>
         have HF := HBA.out (by rw [hokm, Bool.and_false])
         clear hokm
         refine wp_region_keeps (by kernel_rfl) (by kernel_rfl) ?_
         repeat (go_big_quiet_step (first | with_reducible exact KW.of HRV.out _))
         refine wpQuiet_nil ?_
         intro wx kx
         go_wp2
         go_ret
         exact ⟨by rw [HF.out]; rfl, (HK5.out.trans hk).trans (HK3.out.trans kx)⟩
        | true =>
         by_cases hkk : xk = ck
         ·have hz : (xk != ck) = false := by simp [hkk]
          have hok' : Hid (∀ j, j < m + 1 → okAt t.cols r j = true) := Lib.hid (fun j hj => by
           by_cases h : j < m
           ·exact hok.out j h
           ·obtain rfl : j = m := by omega
            rw [hokm, decide_eq_true hkk]; rfl)
          clear hokm hkk
          refine wp_region_keeps (by kernel_rfl) (by kernel_rfl) ?_
          repeat (go_big_quiet_step (first | with_reducible exact KW.of HRV.out _))
          refine wpQuiet_nil ?_
          intro wx kx
          have K6 := Lib.hid (HK3.out.trans kx)
          clear kx
          go_wp2
          go_roundw
          case rel => exact ⟨m + 1, by omega, by go_num, hok', K6.out⟩
          case measure => simp [intOf]; omega
         ·have hz : (xk != ck) = true := by rw [bne_iff_ne]; exact hkk
          have HF := HBA.out (by rw [hokm, decide_eq_false hkk, Bool.false_and])
          clear hokm hkk
          refine wp_region_keeps (by kernel_rfl) (by kernel_rfl) ?_
          repeat (go_big_quiet_step (first | with_reducible exact KW.of HRV.out _))
          refine wpQuiet_nil ?_
          intro wx kx
          go_wp2
          go_ret
          exact ⟨by rw [HF.out]; rfl, (HK5.out.trans hk).trans (HK3.out.trans kx)⟩
       ·have hrow := Lib.hid (HNX.out (by
         unfold rowB
         rw [decide_eq_true HRL.out, Bool.true_and, List.all_eq_true]
         intro j hj
         exact hok.out j (by have := List.mem_range.1 hj; omega)))
        have HKK := Lib.hid (hk.trans hk2)
        clear hk2 hok
        go_wp2
        go_roundw
        case rel => exact ⟨n + 1, by omega, by go_num, hrow, HKK.out⟩
        case measure => simp [intOf]; omega
     ·have hb1 : ((r.length : Int) != (t.cols.length : Int)) = true := by rw [bne_iff_ne]; omega
      have HF := HBAD.out (by unfold rowB; rw [decide_eq_false hrl, Bool.false_and])
      clear hrl
      go_wp2
      go_ret
      exact ⟨by rw [HF.out]; rfl, HK5.out.trans hk⟩
    ·have hfin : Hid (rightB t = true) := Lib.hid (by
      unfold rightB
      rw [HC1.out, decide_eq_true h2, Bool.and_self, Bool.true_and, List.all_eq_true]
      intro r hr
      obtain ⟨j, hj, rfl⟩ := List.getElem_of_mem hr
      exact hno.out j (by omega) hj)
     go_wp2
     go_ret
     exact ⟨by rw [hfin.out]; rfl, HK5.out.trans hk⟩
  ·have h2' : (60 : Int) < (t.rows.length : Int) := by omega
   have HF : Hid (rightB t = false) := Lib.hid (by unfold rightB; rw [decide_eq_false h2, Bool.and_false, Bool.false_and])
   clear h2
   go_enter Tryz.func13, Tryz.ntmps13
   go_wp2_with (go_at_call 11; refine (HC.out _ ((Keeps.refl _ _).alloc _)).mono ?_; rintro e w5 ⟨rfl, hk5⟩; have q1 := hk5.cell_of (p := ⟨w.heap.size, 1, none⟩) (v := .slice B t.rows.length d) (by simp) (by simp))
   go_ret
   exact ⟨by rw [HF.out]; rfl, ((Keeps.refl _ _).alloc _).trans hk5⟩
end Go.Proofs.YtpagiajlefejcaaGreatDoor
namespace Go.Proofs.YtpagiajlefejcaaGreatDoor
open Go.RowKit
attribute [local go_sem] bs_size bs_extract bs_append bs_toList
def Bld (w : World) (B b : Nat) (l : Bs) : Prop := Lib.IsBuilder 126 5 B b (Lib.byteCells l) w
theorem bytes_len (l : Bs) : (Lib.byteCells l).length = l.length := by simp [Lib.byteCells]
theorem bld_info : (Tryz.prog.info? 5).map (fun i => (i.zero, i.size, i.bytes)) = some (some (.int .u8 0), 1, 1) := by kernel_rfl
theorem bld_size : (Tryz.prog.info? 126).map (·.size) = some 2 := by kernel_rfl
theorem bld_lies : liesAt Tryz.prog Tryz.prog.depth 126 (2 / Tryz.prog.cellsOf 126) 0 126 1 = true := by kernel_rfl
set_option maxHeartbeats 1000000 in
set_option maxRecDepth 100000 in
theorem copy_fresh (b : Nat) (w : World) (h0 : w.cell? ⟨b, 0, none⟩ = some (.pointer none)) (hsh : w.shape? b = some (126, 2)) (hfz : w.frozen? ⟨b, 0, none⟩ = false) :
  Calls Tryz.prog 125 #[.pointer (some ⟨b, 0, none⟩)] w fun e w' => e = .returned (.tuple #[]) ∧ w' = w.setCell ⟨b, 0, none⟩ (.pointer (some ⟨b, 0, none⟩)) := by
 obtain ⟨j, hj, hjs⟩ := Option.map_eq_some_iff.1 bld_size
 go_enter Tryz.func125, Tryz.ntmps125
 go_wp2
 rw [Lib.run_to_unsafe w ⟨b, 0, none⟩ Tryz.underlying123 Tryz.underlying248 hj (by rw [hjs]; decide) hsh (Nat.zero_lt_succ 1)]
 simp only [Result.andThen]
 rw [Oper.upon_value]
 go_wp2
 rw [run_callFunc_extern Tryz.func174 (by kernel_rfl) (by kernel_rfl) (by kernel_rfl) (e := Extern.AbiNoEscape.same) (by kernel_rfl)]
 rw [Lib.run_noEscape]
 simp only [Result.andThen]
 rw [Oper.upon_value]
 go_wp2
 rw [Lib.run_from_unsafe w ⟨b, 0, none⟩ Tryz.underlying248 Tryz.underlying123 hj hsh bld_lies]
 simp only [Result.andThen]
 rw [Oper.upon_value]
 go_wp2
 go_end0
 exact ⟨rfl, rfl⟩
set_option maxRecDepth 100000 in
theorem copy_used (b : Nat) (w : World) (h0 : w.cell? ⟨b, 0, none⟩ = some (.pointer (some ⟨b, 0, none⟩))) :
  Calls Tryz.prog 125 #[.pointer (some ⟨b, 0, none⟩)] w fun e w' => e = .returned (.tuple #[]) ∧ w' = w := by
 obtain ⟨j, hj, hjs⟩ := Option.map_eq_some_iff.1 bld_size
 go_enter Tryz.func125, Tryz.ntmps125
 go_wp2
 rw [Lib.run_neq_ptr_same w _ Tryz.underlying123 hj]
 go_wp2
 go_end0
 exact ⟨rfl, rfl⟩
theorem copy_any (B b : Nat) (bs : List Value) (w : World) (h : Lib.IsBuilder 126 5 B b bs w) :
  Calls Tryz.prog 125 #[.pointer (some ⟨b, 0, none⟩)] w fun e w' => e = .returned (.tuple #[]) ∧ (Lib.BuilderAt 126 5 B b (.pointer (some ⟨b, 0, none⟩)) bs w' ∧ Below B w w' ∧ Lib.OthersKept 5 (some b) w w') := by
 rcases h with h | h
 ·refine (copy_fresh b w h.cell0 h.shape h.frozen0).mono ?_
  rintro e w' ⟨rfl, rfl⟩
  exact ⟨rfl, h.used _, (Below.refl B w).setCell (p := ⟨b, 0, none⟩) h.1 _, Lib.OthersKept.setCell (b := b) (Lib.OthersKept.refl _ _ _) ⟨b, 0, none⟩ rfl _⟩
 ·refine (copy_used b w h.cell0).mono ?_
  rintro e w' ⟨rfl, rfl⟩
  exact ⟨rfl, h, Below.refl B _, Lib.OthersKept.refl _ _ _⟩
theorem bld_kind {w : World} {B : Nat} {e : TypeId} {v : Value} {n : Nat} {xs : List Value} (h : w.ownsRow B e 1 v n xs) : ∀ g, v.ownBlock = some g → ∃ c fz, w.heap[g]? = some (.cells c e fz) := fun g hg => by
 rcases h.2 with ⟨rfl, _⟩ | ⟨g', cap, cur, rfl, _, hh, _⟩
 ·cases hg
 ·have : g' = g := by simpa [Value.ownBlock] using hg
  subst this
  exact ⟨cur, _, hh⟩
theorem bld_after {w1 w2 : World} {b : Nat} {t : TypeId} {cs : Array Value} {v : Value} {o : Obj} (hbk : w1.heap[b]? = some (.cells cs t (0, 0))) (hgrow : (w1.alloc o).grownBy w2 v.ownBlock) (hne : v.ownBlock ≠ some b) :
  b < w1.heap.size ∧ w2.heap[b]? = some (.cells cs t (0, 0)) := by
 have hlt : b < w1.heap.size := (Array.getElem?_eq_some_iff.1 hbk).1
 exact ⟨hlt, by rw [hgrow.block b (by simp; omega) (fun e => hne e.symm), Lib.alloc_old w1 _ b hlt]; exact hbk⟩
theorem bld_after' {w1 w2 : World} {b : Nat} {t : TypeId} {cs : Array Value} {v : Value} (hbk : w1.heap[b]? = some (.cells cs t (0, 0))) (hgrow : w1.grownBy w2 v.ownBlock) (hne : v.ownBlock ≠ some b) :
  b < w1.heap.size ∧ w2.heap[b]? = some (.cells cs t (0, 0)) := by
 have hlt : b < w1.heap.size := (Array.getElem?_eq_some_iff.1 hbk).1
 exact ⟨hlt, by rw [hgrow.block b hlt (fun e => hne e.symm)]; exact hbk⟩
set_option maxHeartbeats 1000000 in
set_option maxRecDepth 100000 in
theorem writeString_any {w : World} {B b : Nat} {l : Bs} (h : Bld w B b l) (s : Bs) (hlen : l.length ≤ 1000000000) (hs : s.length ≤ 1000000000) (hBw : B ≤ w.heap.size) :
  Calls Tryz.prog 61 #[.pointer (some ⟨b, 0, none⟩), .string (bs s)] w fun e w' => e = .returned (.tuple #[.int .i64 s.length, .nilIface]) ∧ Bld w' B b (l ++ s) ∧ Below B w w' ∧ Lib.OthersKept 5 (some b) w w' := by
 obtain ⟨i0, hi, hz0, hz1, hz2⟩ := info_parts bld_info
 have hl := bytes_len l
 have HL := Lib.hid hl
 have HB := Lib.hid (copy_any B b (Lib.byteCells l) w h)
 clear hl h
 go_enter Tryz.func61, Tryz.ntmps61
 go_wp2_with fail
 refine HB.out.mono ?_
 rintro e w1 ⟨rfl, h1, hb1, ko1⟩
 obtain ⟨hB, v, hbk, hown, hne⟩ := h1
 have c1 : w1.cell? ⟨b, 1, none⟩ = some v := by rw [Lib.cell_of_heap hbk]; rfl
 have HBK := Lib.hid hbk
 have HO := Lib.hid hown
 have HB1 := Lib.hid hb1
 have KO1 := Lib.hid ko1
 have HS := Lib.hid (show B ≤ w1.heap.size by have := hb1.size; omega)
 have HM := Lib.hid (show (Lib.byteCells l).length + (bs s).size ≤ maxLen ∧ (Lib.byteCells l).length + (bs s).size ≤ 140737488355328 by rw [HL.out, bs_size]; simp only [maxLen]; omega)
 clear hbk hown hb1 ko1
 go_wp2_with (at_builtin; refine Lib.wpList_append_own_string _ rfl _ _ 124 9 rfl B 5 i0 Tryz.underlying124 Tryz.underlying9 hi hz0 hz1 hz2 _ _ _ rfl HO.out (bs s) rfl HM.out.1 HM.out.2 HS.out ?_)
 intro vv w2 hown' hgrow hnn
 obtain ⟨hlt, hb2⟩ := bld_after' HBK.out hgrow hne
 have d1 : w2.cell? ⟨b, 1, none⟩ = some v := by rw [Lib.cell_of_heap hb2]; rfl
 have f1 : w2.frozen? ⟨b, 1, none⟩ = false := Lib.frozen_of_heap hb2 1
 obtain ⟨ao, n', cap, rfl⟩ : ∃ ao n' cap, vv = .slice ao n' cap := by
  rcases hown'.2 with ⟨hv, _⟩ | ⟨g, cap, cur, hv, _⟩
  ·exact ⟨_, _, _, hv⟩
  ·exact ⟨_, _, _, hv⟩
 have e : Lib.byteCells (l ++ s) = Lib.byteCells l ++ Lib.strCells (bs s) := by simp [Lib.byteCells, Lib.strCells, bs]
 have HO2 := Lib.hid hown'
 have HE := Lib.hid e
 have HG := Lib.hid hgrow
 have HB2 := Lib.hid hb2
 clear hown' e hgrow hb2 hnn
 go_wp2
 go_ret2
 refine ⟨rfl, .inr ?_, ?_, ?_⟩
 ·exact Lib.BuilderAt.put (T := 126) (e := 5) hB HB2.out (bs' := Lib.byteCells (l ++ s)) (by rw [HE.out, List.length_append, Lib.strCells_length, bs_size]; exact HO2.out) (by decide)
 ·exact (HB1.out.grown HG.out (by have := HB1.out.size; omega) (fun k hk => (HO.out.lt k hk).1)).setCell (p := ⟨b, 1, none⟩) hB _
 ·exact (KO1.out.grown HG.out (bld_kind HO.out)).setCell ⟨b, 1, none⟩ rfl _
theorem Bld.alloc {w : World} {B b : Nat} {l : Bs} (h : Bld w B b l) (o : Obj) : Bld (w.alloc o) B b l := by
 have key : ∀ p, Lib.BuilderAt 126 5 B b p (Lib.byteCells l) w → Lib.BuilderAt 126 5 B b p (Lib.byteCells l) (w.alloc o) := fun p hp => by
  obtain ⟨h1, v, h2, h3, h4⟩ := hp
  exact ⟨h1, v, (Lib.alloc_old w o b (Array.getElem?_eq_some_iff.1 h2).1).trans h2, h3.alloc o, h4⟩
 rcases h with h | h
 ·exact .inl (key _ h)
 ·exact .inr (key _ h)
theorem Bld.keep {w w' : World} {B b : Nat} {l : Bs} (h : Bld w B b l) (hk : Keeps [] w w') : Bld w' B b l := by
 have key : ∀ p, Lib.BuilderAt 126 5 B b p (Lib.byteCells l) w → Lib.BuilderAt 126 5 B b p (Lib.byteCells l) w' := fun p hp => by
  obtain ⟨h1, v, h2, h3, h4⟩ := hp
  exact ⟨h1, v, (hk.block b (Array.getElem?_eq_some_iff.1 h2).1 (by simp)).trans h2, own_keep h3 hk (by simp), h4⟩
 rcases h with h | h
 ·exact .inl (key _ h)
 ·exact .inr (key _ h)
theorem Bld.lt {w : World} {B b : Nat} {l : Bs} (h : Bld w B b l) : b < w.heap.size := by
 rcases h with ⟨_, v, h2, _⟩ | ⟨_, v, h2, _⟩
 ·exact (Array.getElem?_eq_some_iff.1 h2).1
 ·exact (Array.getElem?_eq_some_iff.1 h2).1
theorem Bld.drew {w : World} {B b : Nat} {l : Bs} (h : Bld w B b l) : Bld w.drew B b l := h
theorem Keeps.under {w0 w w' : World} (hk : Keeps [] w0 w) (hb : Below w0.heap.size w w') : Keeps [] w0 w' :=
 ⟨hb.os.trans hk.os, hb.output.trans hk.output, Nat.le_trans hk.size hb.size, fun k h1 _ => (hb.block k h1).trans (hk.block k h1 (by simp))⟩
theorem Blk.beside {w w' : World} {g b : Nat} {t e : TypeId} {cs : Array Value} (h : Blk w g t cs) (hk : Lib.OthersKept e (some b) w w') (hg : g ≠ b) (ht : t ≠ e) : Blk w' g t cs :=
 hk g _ h (by simpa using hg) (fun c fz he => by injection he with _ h2; exact ht h2)
theorem bld_new (w : World) : Bld (w.alloc (.cells #[.pointer none, .slice none 0 0] 126)) w.heap.size w.heap.size [] := Lib.fresh_isBuilder _ _ w
end Go.Proofs.YtpagiajlefejcaaGreatDoor
namespace Go.Proofs.YtpagiajlefejcaaGreatDoor
open Go.RowKit Go.Sort
attribute [local go_sem] bs_size bs_extract bs_append bs_toList
theorem tabIs_quiet {P : Program} {w w' : World} {nm : String} {k : IntKind} {zs : List Int} (h : Lib.TabIs P w nm k zs) (hk : Keeps [] w w') : Lib.TabIs P w' nm k zs := by
 unfold Lib.TabIs World.var? at *
 cases hg : P.globalNamed nm with
 | none => rw [hg] at h; cases h
 | some g =>
  rw [hg] at h
  simp only [Option.bind_some] at h ⊢
  cases hh : w.heap[g]? with
  | none => rw [hh] at h; cases h
  | some o =>
   have hlt : g < w.heap.size := (Array.getElem?_eq_some_iff.1 hh).1
   rw [hk.block g hlt (by simp)]
   exact h
theorem keeps_grow (w : World) (os : Array Obj) : Keeps [] w (grow w os) :=
 ⟨rfl, rfl, by unfold grow; simp, fun k hk _ => by unfold grow; exact Array.getElem?_append_left hk⟩
theorem value_p10 (v : Vl) (hn : numOk v.num) (hw : v.word.length ≤ 1000000000) (w : World) (hE : Lib.TabIs Tryz.prog w "internal/strconv.uint64pow10" .u64 Lib.pow10Tab) :
  Calls Tryz.prog 18 #[vAgg v] w fun e w' => e = .returned (.string (bs (valueL v))) ∧ Keeps [] w w' := by
 obtain ⟨k, n, s⟩ := v
 simp only at hn hw
 show Calls _ _ #[.agg #[.int .i64 k, .int .i64 n, .string (bs s)]] w _
 have HE := Lib.hid hE
 have HN := Lib.hid hn
 clear hE hn
 by_cases h1 : k = 1
 ·have hb1 : (k == 1) = true := by rw [h1]; rfl
  have HF : Hid (valueL ⟨k, n, s⟩ = Lib.itoa n) := Lib.hid (if_pos h1)
  clear h1
  go_enter Tryz.func18, Tryz.ntmps18
  go_wp2_with fail
  refine (Tryz.strconv_Itoa n HN.out.1 HN.out.2 _ (tabIs_quiet HE.out ((Keeps.refl _ _).alloc _))).mono ?_
  rintro e w' ⟨rfl, k2, os, rfl⟩
  go_wp2
  go_ret
  exact ⟨by rw [HF.out]; rfl, (((Keeps.refl _ _).alloc _).drewN _).trans (keeps_grow _ _)⟩
 ·have hb1 : (k == 1) = false := by rw [beq_eq_false_iff_ne]; exact h1
  have HF : Hid (valueL ⟨k, n, s⟩ = [39] ++ s ++ [39]) := Lib.hid (if_neg h1)
  clear h1
  go_enter Tryz.func18, Tryz.ntmps18
  go_wp2
  go_ret
  exact ⟨by rw [HF.out, ← bs_append, ← bs_append]; rfl, (Keeps.refl _ _).alloc _⟩
end Go.Proofs.YtpagiajlefejcaaGreatDoor
