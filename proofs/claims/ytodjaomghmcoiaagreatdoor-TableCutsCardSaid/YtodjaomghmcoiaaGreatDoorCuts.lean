/- TableCuts: the walk. -/
import Derived.Test.YtodjaomghmcoiaaGreatDoorBack
import Derived.Test.YtodjaomghmcoiaaGreatDoorCutsP
import Derived.Test.YtodjaomghmcoiaaGreatDoorShCut
import Derived.Test.YtodjaomghmcoiaaGreatDoorQuiet
import Derived.Lib.Bytealg
namespace Go.Proofs.YtodjaomghmcoiaaGreatDoor
open Go.RowKit Go.BigFrame
attribute [local go_sem] bs_size bs_extract bs_append bs_toList
attribute [local go_sem] KW.cell
def pickN (a : Int) (n : Nat) : Nat := (a.emod 18446744073709551616).toNat % n
theorem pickN_lt (a : Int) {n : Nat} (h : 0 < n) : pickN a n < n := Nat.mod_lt _ h
theorem pick_val (a : Int) (n : Nat) (h1 : n ≤ 4294967296) (h0 : 0 < n) : wrap64 ((IntKind.u64.wrap a).tmod (n : Int)) = (pickN a n : Int) := by
  have e : IntKind.u64.wrap a = ((a.emod 18446744073709551616).toNat : Int) := by
    rw [IntKind.wrap_u64]
    have := Int.emod_nonneg a (show (18446744073709551616 : Int) ≠ 0 by decide)
    exact (Int.toNat_of_nonneg this).symm
  have hl := pickN_lt a h0
  rw [e, Int.tmod_eq_emod_of_nonneg (Int.natCast_nonneg _)]
  show wrap64 ((pickN a n : Nat) : Int) = _
  exact IntWalk.wrap64_in _ ⟨by omega, by omega⟩
set_option maxRecDepth 100000 in
theorem pick_any (a : Int) (n : Nat) (h0 : 0 < n) (h1 : n ≤ 4294967296) (w : World) :
    Calls Tryz.prog 12 #[.int .i64 a, .int .i64 (n : Int)] w fun e w' => e = .returned (.int .i64 (pickN a n)) ∧ w = w' := by
  have hz : ¬ (n : Int) = 0 := by omega
  have hv := Lib.hid (pick_val a n h1 h0)
  go_enter Tryz.func12, Tryz.ntmps12
  go_wp2
  go_ret
  exact ⟨by rw [← hv.out]; rfl, rfl⟩
set_option maxRecDepth 100000 in
/-- strings.Count at one byte. -/
theorem count_nl (s : Bs) (w : World) : Calls Tryz.prog 13 #[.string (bs s), .string ⟨#[10]⟩] w fun e w' => e = .returned (.int .i64 ((s.count 10 : Nat) : Int)) ∧ w = w' := by
  have hx : ∀ W, (callFunc 53 #[.string (bs s), .int .u8 10]).run Tryz.prog W = .ok (.value (.int .i64 ((s.count 10 : Nat) : Int))) W := fun W => by
    rw [run_callFunc_extern Tryz.func53 (by kernel_rfl) (by kernel_rfl) (by kernel_rfl) (e := Extern.BytealgCount.count) (by kernel_rfl), Lib.run_countString]
    rfl
  have hx2 : ∀ W, (callFunc 53 #[.string (bs s), .int .u8 ((((⟨#[10]⟩ : ByteArray)[0]'(by decide)).toNat : Nat) : Int)]).run Tryz.prog W = .ok (.value (.int .i64 ((s.count 10 : Nat) : Int))) W := hx
  clear hx
  generalize ((s.count 10 : Nat) : Int) = q at *
  go_enter Tryz.func13, Tryz.ntmps13
  go_wp2
  go_ret
  exact ⟨rfl, rfl⟩
theorem suffix_nl (s : Bs) (hs : s.length ≤ 1000000) (w : World) : Calls Tryz.prog 14 #[.string (bs s), .string ⟨#[10]⟩] w fun e w' => e = .returned (.bool (endsNl s)) ∧ w = w' := by
  refine (Tryz.strings_HasSuffix (bs s) ⟨#[10]⟩ w (by rw [bs_size]; omega)).mono ?_
  rintro e w' ⟨rfl, rfl⟩
  exact ⟨rfl, rfl⟩
theorem endsNl_iff (x : Bs) : endsNl x = true ↔ ∃ y, x = y ++ [10] := by
  unfold endsNl
  rw [List.isSuffixOf_iff_suffix]
  constructor
  · rintro ⟨y, h⟩; exact ⟨y, h.symm⟩
  · rintro ⟨y, h⟩; exact ⟨y, h.symm⟩
theorem rows_take {w : World} {A : Option Addr} {rs : List (List Vl)} (h : RdRows w [] A rs) (n : Nat) (hn : n ≤ rs.length) : RdRows w [] A (rs.take n) := by
  obtain ⟨us, h1, h2, h3⟩ := h
  refine ⟨us.take n, by simp [h1], ⟨by simp [h1], fun h0 => ?_⟩, fun i a b => ?_⟩
  · obtain ⟨ad, e, hb, hlt, hc⟩ := h2.2 (by rw [List.length_take] at h0; omega)
    refine ⟨ad, e, hb, hlt, fun j u hu => hc j u ?_⟩
    rw [List.getElem?_take] at hu
    split at hu
    · exact hu
    · cases hu
  · rw [List.getElem_take, List.getElem_take]
    exact h3 i (by simp at a; omega) (by simp at b; omega)
theorem slice_to (A : Option Addr) (m d n : Nat) (h : n ≤ d) (W : World) : (Instr.slice 23 (.slice A m d) none (some (.int .i64 (n : Int))) none).run Tryz.prog W = .ok (.slice A n d) W := by
  have hT := Tryz.underlying23
  have hl0 : (0 : Int) ≤ (n : Int) := by omega
  have hl1 : (n : Int) ≤ (d : Int) := by omega
  cases A with
  | none => go_simp
  | some a => go_simp
set_option maxRecDepth 100000 in
set_option maxHeartbeats 8000000 in
theorem cuts_all (t : Tb) (A B : Option Addr) (c d : Nat) (cut : Int) (w : World) (hT : TabAny w t A B c d) (hE : TEnv w) :
    Calls Tryz.prog 4 #[tAgg A t.cols.length c B t.rows.length d, .int .i64 cut] w fun e w' => e = .returned (.bool true) ∧ Keeps [] w w' := by
  show Calls _ _ #[.agg #[.slice A t.cols.length c, .slice B t.rows.length d], .int .i64 cut] w _
  have HT := Lib.hid hT
  have HE := Lib.hid hE
  have HSM : Hid (∀ W, Keeps [] w W → Calls Tryz.prog 6 #[.agg #[.slice A t.cols.length c, .slice B t.rows.length d]] W fun e W' => e = .returned (.bool (smallB t)) ∧ Keeps [] W W') := Lib.hid fun W q => small_any t A B c d W (hT.cols.keep q) (hT.rows.keep q)
  have HW := Lib.hid (fun W (q : Keeps [] w W) => written_any W (hE.quiet q))
  clear hT hE
  cases hsm : smallB t with
  | false =>
    rw [hsm] at HSM
    clear hsm
    go_enter Tryz.func4, Tryz.ntmps4
    go_wp2_with fail
    refine (HSM.out _ ((Keeps.refl _ _).alloc _)).mono ?_
    rintro e w2 ⟨rfl, hk2⟩
    go_wp2
    go_ret
    exact ⟨rfl, ((Keeps.refl _ _).alloc _).trans hk2⟩
  | true =>
    rw [hsm] at HSM
    have HIN := Lib.hid (HT.out.inn hsm)
    have hcd := HT.out.cd
    clear hsm HT
    go_enter Tryz.func4, Tryz.ntmps4
    go_wp2_with fail
    refine (HSM.out _ ((Keeps.refl _ _).alloc _)).mono ?_
    rintro e w2 ⟨rfl, hk2⟩
    have HB := Lib.hid ((boxT w t A B c d).keep hk2 (by simp))
    have HK := Lib.hid (((Keeps.refl [] w).alloc (.cells #[.slice A t.cols.length c, .slice B t.rows.length d] 25)).trans hk2)
    obtain ⟨bt, hbt⟩ : ∃ bt, w.heap.size = bt := ⟨_, rfl⟩
    rw [hbt] at HB ⊢
    clear hk2 hbt
    go_wp2_with fail
    refine (HW.out _ HK.out).mono ?_
    rintro e w3 ⟨rfl, hk3⟩
    have HB3 := Lib.hid (HB.out.keep hk3 (by simp))
    have HK3 := Lib.hid (HK.out.trans hk3)
    clear hk3 HB HK
    have HIN3 := Lib.hid (HIN.out.1.quiet HK3.out)
    have HRD3 := Lib.hid (HIN.out.2.quiet HK3.out)
    have HE3 := Lib.hid (HE.out.quiet HK3.out)
    clear HIN HE HW HSM
    have q0 : w3.cell? ⟨bt, 0, none⟩ = some (.slice A t.cols.length c) := HB3.out.cell 0
    have q1 : w3.cell? ⟨bt, 1, none⟩ = some (.slice B t.rows.length d) := HB3.out.cell 1
    cases hr : rightB t with
    | false =>
      have HPN := Lib.hid (print_bad hr HIN3.out)
      clear hr
      go_wp2_with fail
      refine (HPN.out _ (Keeps.refl _ _)).mono ?_
      rintro e w5 ⟨rfl, hk5⟩
      go_wp2
      go_ret
      exact ⟨rfl, HK3.out.trans hk5⟩
    | true =>
      have HPN := Lib.hid (print_ok hr HIN3.out HE3.out rfl)
      have hpl : (printL t).length ≤ 1000000 := printL_len hr
      obtain ⟨k, hk⟩ : ∃ k, pickN cut ((printL t).length + 1) = k := ⟨_, rfl⟩
      have hkl : k ≤ (printL t).length := by have := pickN_lt cut (show 0 < (printL t).length + 1 by omega); omega
      have HPI := Lib.hid (fun W => pick_any cut ((printL t).length + 1) (by omega) (by omega) W)
      rw [hk] at HPI
      have HY := Lib.hid (cut_yes hr k)
      have HSL := fun W => slice_str (P := Tryz.prog) Tryz.underlying9 (printL t) 0 k (by omega) hkl W
      rw [List.drop_zero] at HSL
      have HSL0 : ∀ W, (Instr.slice 9 (.string (bs (printL t))) none (some (.int .i64 (k : Int))) none).run Tryz.prog W = .ok (.string (bs ((printL t).take k))) W := HSL
      have hxl : ((printL t).take k).length ≤ 1000000 := by rw [List.length_take]; omega
      have h60 := (rightB_parts.1 hr).2.1
      have HN := Lib.hid (fun (h : ((printL t).take k).count 10 = 0 ∨ ¬ ∃ y, (printL t).take k = y ++ [10]) => cut_no h)
      clear hr hk HSL
      generalize hu : printL t = u at *
      generalize hx : u.take k = x at *
      clear hu hx
      go_wp2_with fail
      refine (HPN.out _ (Keeps.refl _ _)).mono ?_
      rintro e w4 ⟨rfl, hk4⟩
      have z0 := hk4.cell_of q0 (by simp)
      have z1 := hk4.cell_of q1 (by simp)
      have HK4 := Lib.hid hk4
      clear hk4 q0 q1
      go_wp2_with (go_at_call 12; refine (HPI.out _).mono ?_; rintro e w' ⟨rfl, rfl⟩)
      by_cases hc : x.count 10 = 0 ∨ ¬ ∃ y, x = y ++ [10]
      · obtain ⟨er, pl, hbad⟩ := HN.out hc
        have HP := Lib.hid (parse_bad hbad hxl w4 (HE3.out.quiet HK4.out))
        clear hbad
        refine HP.out.mono ?_
        rintro e w6 ⟨g, rfl, _, hk6⟩
        by_cases h0 : x.count 10 = 0
        · have HCN := Lib.hid (fun W => count_nl x W)
          rw [h0] at HCN
          clear h0 hc
          go_wp2_with (go_at_call 13; refine (HCN.out _).mono ?_; rintro e w' ⟨rfl, rfl⟩)
          go_ret
          exact ⟨rfl, ((HK3.out.trans HK4.out).trans hk6).alloc _⟩
        · have HCN := Lib.hid (fun W => count_nl x W)
          have hne : (((x.count 10 : Nat) : Int) == 0) = false := by rw [beq_eq_false_iff_ne]; omega
          have hen : endsNl x = false := by
            rw [← Bool.not_eq_true, endsNl_iff]
            exact hc.resolve_left h0
          have HSU := Lib.hid (fun W => suffix_nl x hxl W)
          rw [hen] at HSU
          generalize x.count 10 = q at *
          clear h0 hc hen
          go_wp2_with (first | (go_at_call 13; refine (HCN.out _).mono ?_; rintro e w' ⟨rfl, rfl⟩) | (go_at_call 14; refine (HSU.out _).mono ?_; rintro e w' ⟨rfl, rfl⟩))
          go_ret
          exact ⟨rfl, ((HK3.out.trans HK4.out).trans hk6).alloc _⟩
      · have hc' : ∃ y, x = y ++ [10] := Classical.byContradiction fun h => hc (.inr h)
        obtain ⟨n, hn, hnl, hok⟩ := HY.out hc'
        have hnl' : (t.rows.take n).length = n := by rw [List.length_take]; omega
        have HP : Hid (Calls Tryz.prog 8 #[.string (bs x)] w4 fun e w' => ∃ A B c d, e = .returned (.tuple #[.agg #[.slice A t.cols.length c, .slice B n d], .nilIface]) ∧ TabIn w' ⟨t.cols, t.rows.take n⟩ A B c d ∧ Keeps [] w4 w') := Lib.hid (by
          have h := parse_ok hok hxl w4 (HE3.out.quiet HK4.out)
          simp only [hnl'] at h
          exact h)
        have HNL := Lib.hid hnl'
        clear hnl'
        have hen : endsNl x = true := (endsNl_iff x).2 hc'
        have HSU := Lib.hid (fun W => suffix_nl x hxl W)
        rw [hen] at HSU
        have HCN := Lib.hid (fun W => count_nl x W)
        rw [hn] at HCN
        clear hc hc' hok hen hn HN HY
        refine HP.out.mono ?_
        rintro e w6 ⟨A6, B6, c6, d6, rfl, hT6, hk6⟩
        have HK6 := Lib.hid hk6
        have HT6 := Lib.hid hT6
        have y0 := hk6.cell_of z0 (by simp)
        have y1 := hk6.cell_of z1 (by simp)
        have yl : bt < w6.heap.size := World.block_lt_of_cell? _ _ y0
        have hne : (((n + 1 : Nat) : Int) == 0) = false := by rw [beq_eq_false_iff_ne]; omega
        have hn1 : IntKind.i64.wrap (((n + 1 : Nat) : Int) - 1) = (n : Int) := by rw [show (((n + 1 : Nat) : Int) - 1) = (n : Int) by omega]; exact IntWalk.i64_in _ (by omega)
        clear hk6 hT6 z0 z1
        go_wp2_with (first | (go_at_call 13; refine (HCN.out _).mono ?_; rintro e w' ⟨rfl, rfl⟩) | (go_at_call 14; refine (HSU.out _).mono ?_; rintro e w' ⟨rfl, rfl⟩))
        have HSB := fun W => slice_to B t.rows.length d n (by omega) W
        have HSA : Hid (∀ W, Keeps [] w6 W → Calls Tryz.prog 11 #[.agg #[.slice A6 t.cols.length c6, .slice B6 n d6], .agg #[.slice A t.cols.length c, .slice B n d]] W fun e W' => e = .returned (.bool true) ∧ Keeps [] W W') := Lib.hid fun W q => by
          have hT := HT6.out.quiet q
          have hR := HRD3.out.quiet ((HK4.out.trans HK6.out).trans q)
          have hnl' := HNL.out
          have h := same_any ⟨t.cols, t.rows.take n⟩ ⟨t.cols, t.rows.take n⟩ A6 B6 A B c6 d6 c d W ⟨hT.cols, hT.rows, hT.ln, hT.lm, hT.lr⟩ ⟨hR.cols, rows_take hR.rows n hnl, hR.ln, hT.lm, hT.lr⟩
          rw [decide_eq_true rfl] at h
          simp only [tAgg, hnl'] at h ⊢
          exact h
        obtain ⟨w7, hw7⟩ : ∃ w7, w6.alloc (.cells #[.slice A6 t.cols.length c6, .slice B6 n d6] 25) = w7 := ⟨_, rfl⟩
        have hk7 : Keeps [] w6 w7 := by rw [← hw7]; exact (Keeps.refl _ _).alloc _
        have u0 : w7.cell? ⟨w6.heap.size, 0, none⟩ = some (.slice A6 t.cols.length c6) := by rw [← hw7]; exact (Blk.new _ _ _).cell _
        have u1 : w7.cell? ⟨w6.heap.size, 1, none⟩ = some (.slice B6 n d6) := by rw [← hw7]; exact (Blk.new _ _ _).cell _
        have v0 := hk7.cell_of y0 (by simp)
        have v1 := hk7.cell_of y1 (by simp)
        have vl : bt < w7.heap.size := World.block_lt_of_cell? _ _ v0
        have ul : w6.heap.size < w7.heap.size := World.block_lt_of_cell? _ _ u0
        have HK7 := Lib.hid hk7
        replace HSA := Lib.hid (fun W (q : Keeps [] w7 W) => HSA.out W (HK7.out.trans q))
        rw [hw7]
        generalize w6.heap.size = bx at *
        clear hw7 hk7 y0 y1 yl
        refine wp_region_keeps (by kernel_rfl) (by kernel_rfl) ?_
        repeat (go_big_quiet_step (with_reducible exact KW.of HSA.out _))
        refine wpQuiet_nil ?_
        intro w8 hk8
        go_wp2
        go_ret
        exact ⟨rfl, (((HK3.out.trans HK4.out).trans HK6.out).trans HK7.out).trans hk8⟩
end Go.Proofs.YtodjaomghmcoiaaGreatDoor
