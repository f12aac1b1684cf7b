/- table.Print. -/
import Derived.Test.YtodjaomghmcoiaaGreatDoorTabP
namespace Go.Proofs.YtodjaomghmcoiaaGreatDoor
open Go.RowKit
attribute [local go_sem] bs_size bs_extract bs_append bs_toList
/-- A table in memory, read alone. -/
structure TabIn (w : World) (t : Tb) (A B : Option Addr) (c d : Nat) : Prop where
  cols : Rd w [] 2 A t.cols.length (csCells t.cols)
  cc : t.cols.length ≤ c
  rows : RdRows w [] B t.rows
  cd : t.rows.length ≤ d
  names : ∀ x ∈ t.cols, x.name.length ≤ 1000000000
  ln : t.cols.length ≤ 4294967296
  lm : t.rows.length ≤ 4294967296
  lr : ∀ r ∈ t.rows, r.length ≤ 4294967296
theorem TabIn.quiet {w w' : World} {t : Tb} {A B : Option Addr} {c d : Nat} (h : TabIn w t A B c d) (hk : Keeps [] w w') : TabIn w' t A B c d :=
  ⟨h.cols.keep hk, h.cc, h.rows.keep hk, h.cd, h.names, h.ln, h.lm, h.lr⟩
theorem TabIn.right {w : World} {t : Tb} {A B : Option Addr} {c d : Nat} (h : TabIn w t A B c d) :
    Calls Tryz.prog 10 #[tAgg A t.cols.length c B t.rows.length d] w fun e w' => e = .returned (.bool (rightB t)) ∧ Keeps [] w w' :=
  right_any t A B c d w h.cols h.cc h.rows h.names h.ln h.lm h.lr
set_option maxRecDepth 100000 in
set_option maxHeartbeats 4000000 in
theorem print_no (t : Tb) (A B : Option Addr) (c d : Nat) (w : World) (hT : TabIn w t A B c d) (hr : rightB t = false) :
    Calls Tryz.prog 9 #[tAgg A t.cols.length c B t.rows.length d] w fun e w' => e = .returned (.tuple #[.string (bs []), .iface 47 (.int .i64 1)]) ∧ Keeps [] w w' := by
  have h := fun W (q : Keeps [] w W) => (hT.quiet q).right
  rw [hr] at h
  have H := Lib.hid h
  clear h hr hT
  show Calls _ _ #[.agg #[.slice A t.cols.length c, .slice B t.rows.length d]] w _
  go_enter Tryz.func9, Tryz.ntmps9
  go_wp2_with (go_at_call 10; refine (H.out _ ((Keeps.refl _ _).alloc _)).mono ?_; rintro e w5 ⟨rfl, hk5⟩)
  go_ret2
  exact ⟨rfl, ((Keeps.refl _ _).alloc _).trans hk5⟩
set_option maxRecDepth 100000 in
set_option maxHeartbeats 8000000 in
theorem print_yes (t : Tb) (A B : Option Addr) (c d : Nat) (w : World) (hT : TabIn w t A B c d) (hE : TEnv w) (hr : rightB t = true) :
    Calls Tryz.prog 9 #[tAgg A t.cols.length c B t.rows.length d] w fun e w' => e = .returned (.tuple #[.string (bs (printL t)), .nilIface]) ∧ Keeps [] w w' := by
  obtain ⟨r1, r2, r3, r4⟩ := rightB_of hr
  have h := fun W (q : Keeps [] w W) => (hT.quiet q).right
  rw [hr] at h
  have H := Lib.hid h
  have HT := Lib.hid hT
  have HE := Lib.hid hE
  have HR := Lib.hid hr
  have R1 := Lib.hid r1
  have R4 := Lib.hid r4
  clear h hr hT hE r1 r4
  show Calls _ _ #[.agg #[.slice A t.cols.length c, .slice B t.rows.length d]] w _
  go_enter Tryz.func9, Tryz.ntmps9
  go_wp2_with (go_at_call 10; refine (H.out _ ((Keeps.refl _ _).alloc _)).mono ?_; rintro e w5 ⟨rfl, hk5⟩; have q0 := hk5.cell_of (p := ⟨w.heap.size, 0, none⟩) (v := .slice A t.cols.length c) (by simp) (by simp); have q1 := hk5.cell_of (p := ⟨w.heap.size, 1, none⟩) (v := .slice B t.rows.length d) (by simp) (by simp); have hlt5 := World.block_lt_of_cell? _ _ q0)
  obtain ⟨bt, hbt⟩ : ∃ bt, w.heap.size = bt := ⟨_, rfl⟩
  have HK5 := Lib.hid (((Keeps.refl [] w).alloc (.cells #[.slice A t.cols.length c, .slice B t.rows.length d] 25)).trans hk5)
  rw [hbt] at q0 q1 hlt5 ⊢
  have Q1 := Lib.hid q1
  have hbld := bld_new w5
  obtain ⟨b, hb⟩ : ∃ b, w5.heap.size = b := ⟨_, rfl⟩
  have hk6 : Keeps [] w5 (w5.alloc (.cells #[.pointer none, .slice none 0 0] 82)) := (Keeps.refl [] w5).alloc _
  have hbs : b < (w5.alloc (.cells #[.pointer none, .slice none 0 0] 82)).heap.size := by simp; omega
  rw [hb] at hbld ⊢
  generalize w5.alloc (.cells #[.pointer none, .slice none 0 0] 82) = W6 at hbld hk6 hbs ⊢
  have HB := Lib.hid hb
  have HBLD := Lib.hid hbld
  have HK6 := Lib.hid hk6
  clear hk5 hbt q0 q1 hbld hb hk6
  go_loopw [18] (fun i wr => ∃ n : Nat, n ≤ t.cols.length ∧ i = .int .i64 n ∧ Bld wr b b (colsT t.cols n) ∧ Keeps [] w5 wr ∧ b < wr.heap.size) (fun i _ => t.cols.length - (intOf i).toNat)
  case atStart => exact ⟨0, Nat.zero_le _, rfl, HBLD.out, HK6.out, hbs⟩
  case round =>
    clear HBLD HK6 hbs
    obtain ⟨n, hn, rfl, hbl, hk, hbs⟩ := hrel
    have hcl := colsT_len R1.out n hn
    by_cases hlt : n < t.cols.length
    · obtain ⟨ba, oa, rfl, _, hba, hcs⟩ := ((HT.out.cols.keep HK5.out).keep hk).open' (by omega) (by omega)
      have d1 := hcs (n * 2) _ (csCells_at t.cols n hlt).1
      have d2 := hcs (n * 2 + 1) _ (csCells_at t.cols n hlt).2
      rw [← Nat.add_assoc] at d2
      obtain ⟨ok1, ok2⟩ := okCol_of R1.out hlt
      have hnx := colsT_succ t.cols n hlt
      have hnl := nameB_len ok1
      generalize t.cols[n] = x at *
      obtain ⟨nm, kd⟩ := x
      simp only at d1 d2 ok2 hnx hnl
      have HNX := Lib.hid hnx
      have HBL := Lib.hid hbl
      have HKK := Lib.hid hk
      clear hcs ok1 hnx hbl hk
      obtain ⟨j, hj, rfl⟩ : ∃ j : Nat, j < 3 ∧ kd = (j : Int) := by
        rcases ok2 with h | h
        · exact ⟨1, by omega, h⟩
        · exact ⟨2, by omega, h⟩
      have hj3 : (j : Int) < 3 := by omega
      have hkw := kindW_len j
      have kk := fun W (q : Keeps [] w W) => (HE.out.quiet q).kinds j hj
      rw [Int.toNat_natCast] at HNX
      generalize kindW j = kw at *
      have KK := Lib.hid kk
      have hws := fun (W W0 : World) (l : Bs) (h : Bld W b b l) (hl : l.length ≤ 1000) (hW : b ≤ W.heap.size) => writeString_any h (nm ++ [58] ++ kw) (by omega) (by simp; omega) hW
      have e58 : bs (nm ++ [58] ++ kw) = bs nm ++ ⟨#[58]⟩ ++ bs kw := by rw [← bs_append, ← bs_append]; rfl
      rw [e58] at hws
      have HWS := Lib.hid hws
      have hA : Blk (wr.alloc (.cells #[.string (bs nm), .int .i64 (j : Int)] 63)) wr.heap.size 63 #[.string (bs nm), .int .i64 (j : Int)] := Blk.new wr _ _
      have hKA : Keeps [] w5 (wr.alloc (.cells #[.string (bs nm), .int .i64 (j : Int)] 63)) := HKK.out.alloc _
      have HA2 := Lib.hid hA
      have HKA := Lib.hid hKA
      have HBA := Lib.hid (HBL.out.alloc (.cells #[.string (bs nm), .int .i64 (j : Int)] 63))
      have hnb : wr.heap.size ≠ b := by omega
      clear hws e58 kk hA hKA ok2
      have hl1 : (9223372036854775807 < nm.length + 1) = False := eq_false (by omega)
      have hl2 : (9223372036854775807 < nm.length + 1 + kw.length) = False := eq_false (by omega)
      by_cases hn0 : (0 : Int) < (n : Int)
      · have hx2 := HNX.out
        rw [if_neg (by omega)] at hx2
        have HX2 := Lib.hid hx2
        have hwb := writeByte_any HBA.out 32 (by omega) (by simp; omega)
        have HWB := Lib.hid hwb
        clear hx2 hwb
        go_wp2_with fail
        refine HWB.out.mono ?_
        rintro e w6 ⟨rfl, h6, hb6, ko6⟩
        have hk6 : Keeps [] w5 w6 := HKA.out.under (HB.out ▸ hb6)
        have hs6 : b ≤ w6.heap.size := by have := hb6.size; simp at this; omega
        have HA6 := Lib.hid (HA2.out.beside ko6 hnb (by decide))
        have H6 := Lib.hid h6
        have HK6 := Lib.hid hk6
        have HS0 := Lib.hid (show (_ ∧ _ ∧ _ : Prop) from ⟨(HA6.out.cell 0), (HA6.out.cell 1), KK.out _ (HK5.out.trans hk6)⟩)
        clear h6 hb6 ko6 hk6
        go_wp2_with fail
        go_region_held3 (fun w' => w'.cell? ⟨wr.heap.size, 0, none⟩ = some (.string (bs nm)) ∧ w'.cell? ⟨wr.heap.size, 1, none⟩ = some (.int .i64 (j : Int)) ∧ w'.cell? ⟨0, j, none⟩ = some (.string (bs kw))) (first | exact HS0.out | exact ⟨(HA6.out.beside ko7 hnb (by decide)).cell 0, (HA6.out.beside ko7 hnb (by decide)).cell 1, KK.out _ (HK5.out.trans (HK6.out.drew.under (HB.out ▸ hb7)))⟩ | go_keep) (first | (go_at_call 46; refine (HWS.out _ wr _ (by exact H6.out.drew) (by rw [List.length_append]; simp only [List.length_cons, List.length_nil]; omega) (by exact hs6)).mono ?_; rintro e w7 ⟨rfl, h7, hb7, ko7⟩))
        have HK7 := Lib.hid (HK6.out.drew.under (HB.out ▸ hb7))
        have H7 := Lib.hid h7
        have HS7 := Lib.hid (show b < w7.heap.size from (by have := hb7.size; have := HS0.out.1; have h9 := World.block_lt_of_cell? _ _ this; have h10 : w6.heap.size ≤ w7.heap.size := hb7.size; simp only at h9; omega))
        clear h7 hb7 ko7
        go_wp2
        go_roundw
        case rel => exact ⟨n + 1, by omega, by go_num, by rw [HX2.out]; exact H7.out, HK7.out, HS7.out⟩
        case measure => simp [intOf]; omega
      · have hx2 := HNX.out
        rw [if_pos (by omega), List.append_nil] at hx2
        have HX2 := Lib.hid hx2
        have HS0 := Lib.hid (show (_ ∧ _ ∧ _ : Prop) from ⟨(HA2.out.cell 0), (HA2.out.cell 1), KK.out _ (HK5.out.trans HKA.out)⟩)
        clear hx2
        go_wp2_with fail
        go_region_held3 (fun w' => w'.cell? ⟨wr.heap.size, 0, none⟩ = some (.string (bs nm)) ∧ w'.cell? ⟨wr.heap.size, 1, none⟩ = some (.int .i64 (j : Int)) ∧ w'.cell? ⟨0, j, none⟩ = some (.string (bs kw))) (first | exact HS0.out | exact ⟨(HA2.out.beside ko7 hnb (by decide)).cell 0, (HA2.out.beside ko7 hnb (by decide)).cell 1, KK.out _ (HK5.out.trans (HKA.out.drew.under (HB.out ▸ hb7)))⟩ | go_keep) (first | (go_at_call 46; refine (HWS.out _ wr _ (by exact HBA.out.drew) (by omega) (by simp; omega)).mono ?_; rintro e w7 ⟨rfl, h7, hb7, ko7⟩))
        have HK7 := Lib.hid (HKA.out.drew.under (HB.out ▸ hb7))
        have H7 := Lib.hid h7
        have HS7 := Lib.hid (show b < w7.heap.size from (by have h10 : (wr.alloc (.cells #[.string (bs nm), .int .i64 (j : Int)] 63)).heap.size ≤ w7.heap.size := hb7.size; simp at h10; omega))
        clear h7 hb7 ko7
        go_wp2
        go_roundw
        case rel => exact ⟨n + 1, by omega, by go_num, by rw [HX2.out]; exact H7.out, HK7.out, HS7.out⟩
        case measure => simp [intOf]; omega
    · obtain rfl : n = t.cols.length := by omega
      have HBL := Lib.hid hbl
      have hwb := writeByte_any HBL.out 10 (by omega) (by omega)
      have HWB := Lib.hid hwb
      have hbtr : bt < wr.heap.size := by have := World.block_lt_of_cell? _ _ Q1.out; have := hk.size; simp only at *; omega
      have q1 := hk.cell_of Q1.out (by simp)
      clear hbl hwb
      go_wp2_with fail
      refine HWB.out.mono ?_
      rintro e w6 ⟨rfl, h6, hb6, ko6⟩
      have hk6 : Keeps [] w5 w6 := hk.under (HB.out ▸ hb6)
      have hs6 : b < w6.heap.size := by have := hb6.size; omega
      have q1 := hk6.cell_of Q1.out (by simp)
      obtain ⟨T0, hT0⟩ : ∃ T0, colsT t.cols t.cols.length ++ [10] = T0 := ⟨_, rfl⟩
      have hT0l : T0.length ≤ 100 := by rw [← hT0, List.length_append]; simp only [List.length_cons, List.length_nil]; omega
      rw [hT0] at h6
      have HT0 := Lib.hid hT0
      have H6 := Lib.hid h6
      have HK6 := Lib.hid hk6
      clear h6 hb6 ko6 hk6 hT0
      go_wp2
      go_loopw [40] (fun i wr => ∃ n : Nat, n ≤ t.rows.length ∧ i = .int .i64 n ∧ Bld wr b b (T0 ++ rowsT t.rows n) ∧ Keeps [] w5 wr ∧ b < wr.heap.size) (fun i _ => t.rows.length - (intOf i).toNat)
      case atStart => exact ⟨0, Nat.zero_le _, rfl, by rw [show rowsT t.rows 0 = [] from rfl, List.append_nil]; exact H6.out, HK6.out, hs6⟩
      case round =>
        clear H6 HK6 hs6 q1
        obtain ⟨n, hn, rfl, hbl, hk2, hbs2⟩ := hrel
        have hrl := rowsT_len HR.out n hn
        by_cases hlt : n < t.rows.length
        · obtain ⟨us, hul, hu1, hu2⟩ := HT.out.rows.keep HK5.out
          obtain ⟨bb, ob, rfl, _, hbb, hcs⟩ := (hu1.keep hk2).open' (by omega) (by omega)
          have d1 := hcs n _ (List.getElem?_eq_getElem (by omega))
          obtain ⟨Ar, cr, hue, hcr, hRr⟩ := hu2 n (by omega) hlt
          rw [hue] at d1
          have hrb := R4.out _ (List.getElem_mem hlt)
          have hnx := rowsT_succ t.rows n hlt
          generalize hr : t.rows[n] = r at *
          have hr6 := (rowB_of hrb).1
          have hrv := (rowB_of hrb).2
          have hrtl := rowT_len hrb
          obtain ⟨T1, hT1⟩ : ∃ T1, T0 ++ rowsT t.rows n = T1 := ⟨_, rfl⟩
          have hT1l : T1.length ≤ 10000 := by rw [← hT1, List.length_append]; omega
          rw [hT1] at hbl
          have HT1 := Lib.hid hT1
          have HBL2 := Lib.hid hbl
          have HNX := Lib.hid hnx
          have HRV := Lib.hid hrv
          have HRTL := Lib.hid hrtl
          have HR6 := Lib.hid hr6
          have hrle : r.length ≤ 6 := by omega
          obtain ⟨wo, hwo⟩ : ∃ wo : World, wo = wr := ⟨_, rfl⟩
          subst hwo
          have HKO := Lib.hid hk2
          have HRr5 := Lib.hid hRr
          clear hcs hu1 hu2 hue hul hrb hr hT1 hbl hnx hrv hrtl hr6 hrl hk2 hRr
          go_wp2
          go_loopw [46] (fun i wr => ∃ m : Nat, m ≤ r.length ∧ i = .int .i64 m ∧ Bld wr b b (T1 ++ rowT r m) ∧ Keeps [] w5 wr ∧ b < wr.heap.size) (fun i _ => r.length - (intOf i).toNat)
          case atStart => exact ⟨0, Nat.zero_le _, rfl, by rw [show rowT r 0 = [] from rfl, List.append_nil]; exact HBL2.out, HKO.out, hbs2⟩
          case round =>
            clear HBL2 HKO hbs2
            obtain ⟨m, hm, rfl, hbl, hk2, hbs2⟩ := hrel
            have hRr := HRr5.out.keep hk2
            have hrtl := HRTL.out m hm
            by_cases hlt2 : m < r.length
            · obtain ⟨b2, o2, rfl, _, hb2, hcs2⟩ := hRr.open' (by omega) (by omega)
              have e1 := hcs2 (m * 3) _ (vsCells_at r m hlt2).1
              have e2 := hcs2 (m * 3 + 1) _ (vsCells_at r m hlt2).2.1
              have e3 := hcs2 (m * 3 + 2) _ (vsCells_at r m hlt2).2.2
              rw [← Nat.add_assoc] at e2 e3
              obtain ⟨v1, v2, v3⟩ := rv_len (HRV.out m hlt2)
              have hnx := rowT_succ r m hlt2
              have hva := fun W q => value_any r[m] v2 (by omega) W (HE.out.quiet q)
              generalize r[m] = x at *
              obtain ⟨xk, xn, xs⟩ := x
              simp only at e1 e2 e3
              generalize hvt : valueL ⟨xk, xn, xs⟩ = vt at *
              have hws := fun (W : World) (l : Bs) (h : Bld W b b l) (hl : l.length ≤ 20000) (hW : b ≤ W.heap.size) => writeString_any h vt (by omega) (by omega) hW
              have HWS := Lib.hid hws
              have HVA := Lib.hid hva
              have HNX2 := Lib.hid hnx
              have hA : Blk (wr.alloc (.cells #[.int .i64 xk, .int .i64 xn, .string (bs xs)] 41)) wr.heap.size 41 #[.int .i64 xk, .int .i64 xn, .string (bs xs)] := Blk.new wr _ _
              have hKA : Keeps [] w5 (wr.alloc (.cells #[.int .i64 xk, .int .i64 xn, .string (bs xs)] 41)) := hk2.alloc _
              have HA2 := Lib.hid hA
              have HKA := Lib.hid hKA
              have HBA := Lib.hid (hbl.alloc (.cells #[.int .i64 xk, .int .i64 xn, .string (bs xs)] 41))
              have hnb : wr.heap.size ≠ b := by omega
              clear hcs2 hws hva hnx hA hKA hbl hk2 hRr hvt
              by_cases hm0 : (0 : Int) < (m : Int)
              · have hx2 := HNX2.out
                rw [if_neg (by omega)] at hx2
                have HX2 := Lib.hid hx2
                have hwb := writeByte_any HBA.out 32 (by rw [List.length_append]; omega) (by simp; omega)
                have HWB := Lib.hid hwb
                clear hx2 hwb
                go_wp2_with fail
                refine HWB.out.mono ?_
                rintro e w6 ⟨rfl, h6, hb6, ko6⟩
                have hk6 : Keeps [] w5 w6 := HKA.out.under (HB.out ▸ hb6)
                have hs6 : b ≤ w6.heap.size := by have := hb6.size; simp at this; omega
                have HA6 := HA2.out.beside ko6 hnb (by decide)
                have s1 : w6.cell? ⟨wr.heap.size, 0, none⟩ = some (.int .i64 xk) := HA6.cell 0
                have s2 : w6.cell? ⟨wr.heap.size, 1, none⟩ = some (.int .i64 xn) := HA6.cell 1
                have s3 : w6.cell? ⟨wr.heap.size, 2, none⟩ = some (.string (bs xs)) := HA6.cell 2
                have H6 := Lib.hid h6
                have HK6 := Lib.hid hk6
                clear h6 hb6 ko6 hk6 HA6
                go_wp2_with fail
                refine (HVA.out _ (HK5.out.trans HK6.out)).mono ?_
                rintro e w7 ⟨rfl, hk7⟩
                have H7 := Lib.hid (H6.out.keep hk7)
                have HK7 := Lib.hid (HK6.out.trans hk7)
                have hs7 : b ≤ w7.heap.size := by have := hk7.size; omega
                clear hk7 s1 s2 s3
                go_wp2_with fail
                refine (HWS.out _ _ H7.out (by rw [List.length_append, List.length_append]; simp only [List.length_cons, List.length_nil]; omega) hs7).mono ?_
                rintro e w8 ⟨rfl, h8, hb8, ko8⟩
                have HK8 := Lib.hid (HK7.out.under (HB.out ▸ hb8))
                have H8 := Lib.hid h8
                have hs8 : b < w8.heap.size := by have := hb8.size; have := HK7.out.size; have := HB.out; have h9 := H7.out.lt; omega
                clear h8 hb8 ko8
                go_wp2
                go_roundw
                case rel => exact ⟨m + 1, by omega, by go_num, by rw [HX2.out, ← List.append_assoc, ← List.append_assoc]; exact H8.out, HK8.out, hs8⟩
                case measure => simp [intOf]; omega
              · have hx2 := HNX2.out
                rw [if_pos (by omega), List.append_nil] at hx2
                have HX2 := Lib.hid hx2
                clear hx2
                have hbs3 : b < wr.heap.size + 1 := by omega
                go_wp2_with fail
                refine (HVA.out _ (HK5.out.trans HKA.out)).mono ?_
                rintro e w7 ⟨rfl, hk7⟩
                have H7 := Lib.hid (HBA.out.keep hk7)
                have HK7 := Lib.hid (HKA.out.trans hk7)
                have hs7 : b ≤ w7.heap.size := by have := hk7.size; simp at this; omega
                clear hk7
                go_wp2_with fail
                refine (HWS.out _ _ H7.out (by rw [List.length_append]; omega) hs7).mono ?_
                rintro e w8 ⟨rfl, h8, hb8, ko8⟩
                have HK8 := Lib.hid (HK7.out.under (HB.out ▸ hb8))
                have H8 := Lib.hid h8
                have hs8 : b < w8.heap.size := by have := hb8.size; have h9 := H7.out.lt; omega
                clear h8 hb8 ko8
                go_wp2
                go_roundw
                case rel => exact ⟨m + 1, by omega, by go_num, by rw [HX2.out, ← List.append_assoc]; exact H8.out, HK8.out, hs8⟩
                case measure => simp [intOf]; omega
            · obtain rfl : m = r.length := by omega
              have hwb := writeByte_any hbl 10 (by rw [List.length_append]; omega) (by omega)
              have HWB := Lib.hid hwb
              have HK2 := Lib.hid hk2
              clear hwb hbl hk2 hRr
              go_wp2_with fail
              refine HWB.out.mono ?_
              rintro e w6 ⟨rfl, h6, hb6, ko6⟩
              have HK6 := Lib.hid (HK2.out.under (HB.out ▸ hb6))
              have H6 := Lib.hid h6
              have hs6 : b < w6.heap.size := by have := hb6.size; omega
              clear h6 hb6 ko6
              go_wp2
              go_roundw
              case rel => exact ⟨n + 1, by omega, by go_num, by rw [HNX.out, ← List.append_assoc, HT1.out, ← List.append_assoc]; exact H6.out, HK6.out, hs6⟩
              case measure => simp [intOf]; omega
        · obtain rfl : n = t.rows.length := by omega
          have HBL2 := Lib.hid hbl
          have HPL : Hid (T0 ++ rowsT t.rows t.rows.length = printL t) := Lib.hid (by rw [← HT0.out]; rfl)
          have hst := Tryz.Builder_String_any b b (T0 ++ rowsT t.rows t.rows.length) wr HBL2.out (by omega)
          have HST := Lib.hid hst
          clear hbl hst
          go_wp2_with fail
          refine HST.out.mono ?_
          rintro e w7 ⟨rfl, hb7⟩
          go_wp2
          go_ret2
          exact ⟨by rw [HPL.out]; rfl, HK5.out.trans (hk2.under (HB.out ▸ hb7))⟩
end Go.Proofs.YtodjaomghmcoiaaGreatDoor
