/- table.Print. table.Parse: words for what it makes. ops.made: what it hands back. -/
import Derived.Test.YtpfkjejknlkkoaaGreatDoorOsoM10
import Derived.Test.YtpfkjejknlkkoaaGreatDoorOsoM11
import Derived.Test.YtpfkjejknlkkoaaGreatDoorOsoM12
import Derived.Deep.AppendLies
import Derived.Test.YtpfkjejknlkkoaaGreatDoorOsoM9
set_option linter.unusedSimpArgs false
set_option linter.unusedVariables false
namespace Go.Proofs.YtpfkjejknlkkoaaGreatDoor
open Go.RowKit
attribute [local go_sem] bs_size bs_extract bs_append bs_toList
structure TabIn (w : World) (t : Tb) (A B : Option Addr) (c d : Nat) : Prop where
 cols : Rd w [] 2 A t.cols.length (csCells t.cols)
 cc : t.cols.length ≤ c
 rows : RdRows w [] B t.rows
 cd : t.rows.length ≤ d
 names : ∀ x ∈ t.cols, x.name.length ≤ 1000000000
 ln : t.cols.length ≤ 4294967296
 lm : t.rows.length ≤ 4294967296
 lr : ∀ r ∈ t.rows, r.length ≤ 4294967296
theorem TabIn.quiet {w w' : World} {t : Tb} {A B : Option Addr} {c d : Nat} (h : TabIn w t A B c d) (hk : Keeps [] w w') : TabIn w' t A B c d :=
 ⟨h.cols.keep hk, h.cc, h.rows.keep hk, h.cd, h.names, h.ln, h.lm, h.lr⟩
theorem TabIn.right {w : World} {t : Tb} {A B : Option Addr} {c d : Nat} (h : TabIn w t A B c d) :
  Calls Tryz.prog 43 #[tAgg A t.cols.length c B t.rows.length d] w fun e w' => e = .returned (.bool (rightB t)) ∧ Keeps [] w w' :=
 right_any t A B c d w h.cols h.cc h.rows h.names h.ln h.lm h.lr
set_option maxRecDepth 100000 in
set_option maxHeartbeats 8000000 in
theorem print_yes (t : Tb) (A B : Option Addr) (c d : Nat) (w : World) (hT : TabIn w t A B c d) (hE : TEnv w) (hr : rightB t = true) :
  Calls Tryz.prog 28 #[tAgg A t.cols.length c B t.rows.length d] w fun e w' => e = .returned (.tuple #[.string (bs (printL t)), .nilIface]) ∧ Keeps [] w w' := by
 obtain ⟨r1, r2, r3, r4⟩ := rightB_of hr
 have h := fun W (q : Keeps [] w W) => (hT.quiet q).right
 rw [hr] at h
 have H := Lib.hid h
 have HT := Lib.hid hT
 have HE := Lib.hid hE
 have HR := Lib.hid hr
 have R1 := Lib.hid r1
 have R4 := Lib.hid r4
 clear h hr hT hE r1 r4
 show Calls _ _ #[.agg #[.slice A t.cols.length c, .slice B t.rows.length d]] w _
 go_enter Tryz.func28, Tryz.ntmps28
 go_wp2_with (go_at_call 43; refine (H.out _ ((Keeps.refl _ _).alloc _)).mono ?_; rintro e w5 ⟨rfl, hk5⟩; have q0 := hk5.cell_of (p := ⟨w.heap.size, 0, none⟩) (v := .slice A t.cols.length c) (by simp) (by simp); have q1 := hk5.cell_of (p := ⟨w.heap.size, 1, none⟩) (v := .slice B t.rows.length d) (by simp) (by simp); have hlt5 := World.block_lt_of_cell? _ _ q0)
 obtain ⟨bt, hbt⟩ : ∃ bt, w.heap.size = bt := ⟨_, rfl⟩
 have HK5 := Lib.hid (((Keeps.refl [] w).alloc (.cells #[.slice A t.cols.length c, .slice B t.rows.length d] 25)).trans hk5)
 rw [hbt] at q0 q1 hlt5 ⊢
 have Q1 := Lib.hid q1
 have hbld := bld_new w5
 obtain ⟨b, hb⟩ : ∃ b, w5.heap.size = b := ⟨_, rfl⟩
 have hk6 : Keeps [] w5 (w5.alloc (.cells #[.pointer none, .slice none 0 0] 93)) := (Keeps.refl [] w5).alloc _
 have hbs : b < (w5.alloc (.cells #[.pointer none, .slice none 0 0] 93)).heap.size := by simp; omega
 rw [hb] at hbld ⊢
 generalize w5.alloc (.cells #[.pointer none, .slice none 0 0] 93) = W6 at hbld hk6 hbs ⊢
 have HB := Lib.hid hb
 have HBLD := Lib.hid hbld
 have HK6 := Lib.hid hk6
 clear hk5 hbt q0 q1 hbld hb hk6
 go_loopw [18] (fun i wr => ∃ n : Nat, n ≤ t.cols.length ∧ i = .int .i64 n ∧ Bld wr b b (colsT t.cols n) ∧ Keeps [] w5 wr ∧ b < wr.heap.size) (fun i _ => t.cols.length - (intOf i).toNat)
 case atStart => exact ⟨0, Nat.zero_le _, rfl, HBLD.out, HK6.out, hbs⟩
 case round =>
  clear HBLD HK6 hbs
  obtain ⟨n, hn, rfl, hbl, hk, hbs⟩ := hrel
  have hcl := colsT_len R1.out n hn
  by_cases hlt : n < t.cols.length
  ·obtain ⟨ba, oa, rfl, _, hba, hcs⟩ := ((HT.out.cols.keep HK5.out).keep hk).open' (by omega) (by omega)
   have d1 := hcs (n * 2) _ (csCells_at t.cols n hlt).1
   have d2 := hcs (n * 2 + 1) _ (csCells_at t.cols n hlt).2
   rw [← Nat.add_assoc] at d2
   obtain ⟨ok1, ok2⟩ := okCol_of R1.out hlt
   have hnx := colsT_succ t.cols n hlt
   have hnl := nameB_len ok1
   generalize t.cols[n] = x at *
   obtain ⟨nm, kd⟩ := x
   simp only at d1 d2 ok2 hnx hnl
   have HNX := Lib.hid hnx
   have HBL := Lib.hid hbl
   have HKK := Lib.hid hk
   clear hcs ok1 hnx hbl hk
   obtain ⟨j, hj, rfl⟩ : ∃ j : Nat, j < 3 ∧ kd = (j : Int) := by
    rcases ok2 with h | h
    ·exact ⟨1, by omega, h⟩
    ·exact ⟨2, by omega, h⟩
   have hj3 : (j : Int) < 3 := by omega
   have hkw := kindW_len j
   have kk := fun W (q : Keeps [] w W) => (HE.out.quiet q).kinds j hj
   rw [Int.toNat_natCast] at HNX
   generalize kindW j = kw at *
   have KK := Lib.hid kk
   have hws := fun (W W0 : World) (l : Bs) (h : Bld W b b l) (hl : l.length ≤ 1000) (hW : b ≤ W.heap.size) => writeString_any h (nm ++ [58] ++ kw) (by omega) (by simp; omega) hW
   have e58 : bs (nm ++ [58] ++ kw) = bs nm ++ ⟨#[58]⟩ ++ bs kw := by rw [← bs_append, ← bs_append]; rfl
   rw [e58] at hws
   have HWS := Lib.hid hws
   have hA : Blk (wr.alloc (.cells #[.string (bs nm), .int .i64 (j : Int)] 39)) wr.heap.size 39 #[.string (bs nm), .int .i64 (j : Int)] := Blk.new wr _ _
   have hKA : Keeps [] w5 (wr.alloc (.cells #[.string (bs nm), .int .i64 (j : Int)] 39)) := HKK.out.alloc _
   have HA2 := Lib.hid hA
   have HKA := Lib.hid hKA
   have HBA := Lib.hid (HBL.out.alloc (.cells #[.string (bs nm), .int .i64 (j : Int)] 39))
   have hnb : wr.heap.size ≠ b := by omega
   clear hws e58 kk hA hKA ok2
   have hl1 : (9223372036854775807 < nm.length + 1) = False := eq_false (by omega)
   have hl2 : (9223372036854775807 < nm.length + 1 + kw.length) = False := eq_false (by omega)
   by_cases hn0 : (0 : Int) < (n : Int)
   ·have hx2 := HNX.out
    rw [if_neg (by omega)] at hx2
    have HX2 := Lib.hid hx2
    have hwb := writeByte_any HBA.out 32 (by omega) (by simp; omega)
    have HWB := Lib.hid hwb
    clear hx2 hwb
    go_wp2_with fail
    refine HWB.out.mono ?_
    rintro e w6 ⟨rfl, h6, hb6, ko6⟩
    have hk6 : Keeps [] w5 w6 := HKA.out.under (HB.out ▸ hb6)
    have hs6 : b ≤ w6.heap.size := by have := hb6.size; simp at this; omega
    have HA6 := Lib.hid (HA2.out.beside ko6 hnb (by decide))
    have H6 := Lib.hid h6
    have HK6 := Lib.hid hk6
    have HS0 := Lib.hid (show (_ ∧ _ ∧ _ : Prop) from ⟨(HA6.out.cell 0), (HA6.out.cell 1), KK.out _ (HK5.out.trans hk6)⟩)
    clear h6 hb6 ko6 hk6
    go_wp2_with fail
    go_region_held3 (fun w' => w'.cell? ⟨wr.heap.size, 0, none⟩ = some (.string (bs nm)) ∧ w'.cell? ⟨wr.heap.size, 1, none⟩ = some (.int .i64 (j : Int)) ∧ w'.cell? ⟨0, j, none⟩ = some (.string (bs kw))) (first | exact HS0.out | exact ⟨(HA6.out.beside ko7 hnb (by decide)).cell 0, (HA6.out.beside ko7 hnb (by decide)).cell 1, KK.out _ (HK5.out.trans (HK6.out.drew.under (HB.out ▸ hb7)))⟩ | go_keep) (first | (go_at_call 47; refine (HWS.out _ wr _ (by exact H6.out.drew) (by rw [List.length_append]; simp only [List.length_cons, List.length_nil]; omega) (by exact hs6)).mono ?_; rintro e w7 ⟨rfl, h7, hb7, ko7⟩))
    have HK7 := Lib.hid (HK6.out.drew.under (HB.out ▸ hb7))
    have H7 := Lib.hid h7
    have HS7 := Lib.hid (show b < w7.heap.size from (by have := hb7.size; have := HS0.out.1; have h9 := World.block_lt_of_cell? _ _ this; have h10 : w6.heap.size ≤ w7.heap.size := hb7.size; simp only at h9; omega))
    clear h7 hb7 ko7
    go_wp2
    go_roundw
    case rel => exact ⟨n + 1, by omega, by go_num, by rw [HX2.out]; exact H7.out, HK7.out, HS7.out⟩
    case measure => simp [intOf]; omega
   ·have hx2 := HNX.out
    rw [if_pos (by omega), List.append_nil] at hx2
    have HX2 := Lib.hid hx2
    have HS0 := Lib.hid (show (_ ∧ _ ∧ _ : Prop) from ⟨(HA2.out.cell 0), (HA2.out.cell 1), KK.out _ (HK5.out.trans HKA.out)⟩)
    clear hx2
    go_wp2_with fail
    go_region_held3 (fun w' => w'.cell? ⟨wr.heap.size, 0, none⟩ = some (.string (bs nm)) ∧ w'.cell? ⟨wr.heap.size, 1, none⟩ = some (.int .i64 (j : Int)) ∧ w'.cell? ⟨0, j, none⟩ = some (.string (bs kw))) (first | exact HS0.out | exact ⟨(HA2.out.beside ko7 hnb (by decide)).cell 0, (HA2.out.beside ko7 hnb (by decide)).cell 1, KK.out _ (HK5.out.trans (HKA.out.drew.under (HB.out ▸ hb7)))⟩ | go_keep) (first | (go_at_call 47; refine (HWS.out _ wr _ (by exact HBA.out.drew) (by omega) (by simp; omega)).mono ?_; rintro e w7 ⟨rfl, h7, hb7, ko7⟩))
    have HK7 := Lib.hid (HKA.out.drew.under (HB.out ▸ hb7))
    have H7 := Lib.hid h7
    have HS7 := Lib.hid (show b < w7.heap.size from (by have h10 : (wr.alloc (.cells #[.string (bs nm), .int .i64 (j : Int)] 39)).heap.size ≤ w7.heap.size := hb7.size; simp at h10; omega))
    clear h7 hb7 ko7
    go_wp2
    go_roundw
    case rel => exact ⟨n + 1, by omega, by go_num, by rw [HX2.out]; exact H7.out, HK7.out, HS7.out⟩
    case measure => simp [intOf]; omega
  ·obtain rfl : n = t.cols.length := by omega
   have HBL := Lib.hid hbl
   have hwb := writeByte_any HBL.out 10 (by omega) (by omega)
   have HWB := Lib.hid hwb
   have hbtr : bt < wr.heap.size := by have := World.block_lt_of_cell? _ _ Q1.out; have := hk.size; simp only at *; omega
   have q1 := hk.cell_of Q1.out (by simp)
   clear hbl hwb
   go_wp2_with fail
   refine HWB.out.mono ?_
   rintro e w6 ⟨rfl, h6, hb6, ko6⟩
   have hk6 : Keeps [] w5 w6 := hk.under (HB.out ▸ hb6)
   have hs6 : b < w6.heap.size := by have := hb6.size; omega
   have q1 := hk6.cell_of Q1.out (by simp)
   obtain ⟨T0, hT0⟩ : ∃ T0, colsT t.cols t.cols.length ++ [10] = T0 := ⟨_, rfl⟩
   have hT0l : T0.length ≤ 100 := by rw [← hT0, List.length_append]; simp only [List.length_cons, List.length_nil]; omega
   rw [hT0] at h6
   have HT0 := Lib.hid hT0
   have H6 := Lib.hid h6
   have HK6 := Lib.hid hk6
   clear h6 hb6 ko6 hk6 hT0
   go_wp2
   go_loopw [40] (fun i wr => ∃ n : Nat, n ≤ t.rows.length ∧ i = .int .i64 n ∧ Bld wr b b (T0 ++ rowsT t.rows n) ∧ Keeps [] w5 wr ∧ b < wr.heap.size) (fun i _ => t.rows.length - (intOf i).toNat)
   case atStart => exact ⟨0, Nat.zero_le _, rfl, by rw [show rowsT t.rows 0 = [] from rfl, List.append_nil]; exact H6.out, HK6.out, hs6⟩
   case round =>
    clear H6 HK6 hs6 q1
    obtain ⟨n, hn, rfl, hbl, hk2, hbs2⟩ := hrel
    have hrl := rowsT_len HR.out n hn
    by_cases hlt : n < t.rows.length
    ·obtain ⟨us, hul, hu1, hu2⟩ := HT.out.rows.keep HK5.out
     obtain ⟨bb, ob, rfl, _, hbb, hcs⟩ := (hu1.keep hk2).open' (by omega) (by omega)
     have d1 := hcs n _ (List.getElem?_eq_getElem (by omega))
     obtain ⟨Ar, cr, hue, hcr, hRr⟩ := hu2 n (by omega) hlt
     rw [hue] at d1
     have hrb := R4.out _ (List.getElem_mem hlt)
     have hnx := rowsT_succ t.rows n hlt
     generalize hr : t.rows[n] = r at *
     have hr6 := (rowB_of hrb).1
     have hrv := (rowB_of hrb).2
     have hrtl := rowT_len hrb
     obtain ⟨T1, hT1⟩ : ∃ T1, T0 ++ rowsT t.rows n = T1 := ⟨_, rfl⟩
     have hT1l : T1.length ≤ 10000 := by rw [← hT1, List.length_append]; omega
     rw [hT1] at hbl
     have HT1 := Lib.hid hT1
     have HBL2 := Lib.hid hbl
     have HNX := Lib.hid hnx
     have HRV := Lib.hid hrv
     have HRTL := Lib.hid hrtl
     have HR6 := Lib.hid hr6
     have hrle : r.length ≤ 6 := by omega
     obtain ⟨wo, hwo⟩ : ∃ wo : World, wo = wr := ⟨_, rfl⟩
     subst hwo
     have HKO := Lib.hid hk2
     have HRr5 := Lib.hid hRr
     clear hcs hu1 hu2 hue hul hrb hr hT1 hbl hnx hrv hrtl hr6 hrl hk2 hRr
     go_wp2
     go_loopw [46] (fun i wr => ∃ m : Nat, m ≤ r.length ∧ i = .int .i64 m ∧ Bld wr b b (T1 ++ rowT r m) ∧ Keeps [] w5 wr ∧ b < wr.heap.size) (fun i _ => r.length - (intOf i).toNat)
     case atStart => exact ⟨0, Nat.zero_le _, rfl, by rw [show rowT r 0 = [] from rfl, List.append_nil]; exact HBL2.out, HKO.out, hbs2⟩
     case round =>
      clear HBL2 HKO hbs2
      obtain ⟨m, hm, rfl, hbl, hk2, hbs2⟩ := hrel
      have hRr := HRr5.out.keep hk2
      have hrtl := HRTL.out m hm
      by_cases hlt2 : m < r.length
      ·obtain ⟨b2, o2, rfl, _, hb2, hcs2⟩ := hRr.open' (by omega) (by omega)
       have e1 := hcs2 (m * 3) _ (vsCells_at r m hlt2).1
       have e2 := hcs2 (m * 3 + 1) _ (vsCells_at r m hlt2).2.1
       have e3 := hcs2 (m * 3 + 2) _ (vsCells_at r m hlt2).2.2
       rw [← Nat.add_assoc] at e2 e3
       obtain ⟨v1, v2, v3⟩ := rv_len (HRV.out m hlt2)
       have hnx := rowT_succ r m hlt2
       have hva := fun W q => value_any r[m] v2 (by omega) W (HE.out.quiet q)
       generalize r[m] = x at *
       obtain ⟨xk, xn, xs⟩ := x
       simp only at e1 e2 e3
       generalize hvt : valueL ⟨xk, xn, xs⟩ = vt at *
       have hws := fun (W : World) (l : Bs) (h : Bld W b b l) (hl : l.length ≤ 20000) (hW : b ≤ W.heap.size) => writeString_any h vt (by omega) (by omega) hW
       have HWS := Lib.hid hws
       have HVA := Lib.hid hva
       have HNX2 := Lib.hid hnx
       have hA : Blk (wr.alloc (.cells #[.int .i64 xk, .int .i64 xn, .string (bs xs)] 32)) wr.heap.size 32 #[.int .i64 xk, .int .i64 xn, .string (bs xs)] := Blk.new wr _ _
       have hKA : Keeps [] w5 (wr.alloc (.cells #[.int .i64 xk, .int .i64 xn, .string (bs xs)] 32)) := hk2.alloc _
       have HA2 := Lib.hid hA
       have HKA := Lib.hid hKA
       have HBA := Lib.hid (hbl.alloc (.cells #[.int .i64 xk, .int .i64 xn, .string (bs xs)] 32))
       have hnb : wr.heap.size ≠ b := by omega
       clear hcs2 hws hva hnx hA hKA hbl hk2 hRr hvt
       by_cases hm0 : (0 : Int) < (m : Int)
       ·have hx2 := HNX2.out
        rw [if_neg (by omega)] at hx2
        have HX2 := Lib.hid hx2
        have hwb := writeByte_any HBA.out 32 (by rw [List.length_append]; omega) (by simp; omega)
        have HWB := Lib.hid hwb
        clear hx2 hwb
        go_wp2_with fail
        refine HWB.out.mono ?_
        rintro e w6 ⟨rfl, h6, hb6, ko6⟩
        have hk6 : Keeps [] w5 w6 := HKA.out.under (HB.out ▸ hb6)
        have hs6 : b ≤ w6.heap.size := by have := hb6.size; simp at this; omega
        have HA6 := HA2.out.beside ko6 hnb (by decide)
        have s1 : w6.cell? ⟨wr.heap.size, 0, none⟩ = some (.int .i64 xk) := HA6.cell 0
        have s2 : w6.cell? ⟨wr.heap.size, 1, none⟩ = some (.int .i64 xn) := HA6.cell 1
        have s3 : w6.cell? ⟨wr.heap.size, 2, none⟩ = some (.string (bs xs)) := HA6.cell 2
        have H6 := Lib.hid h6
        have HK6 := Lib.hid hk6
        clear h6 hb6 ko6 hk6 HA6
        go_wp2_with fail
        refine (HVA.out _ (HK5.out.trans HK6.out)).mono ?_
        rintro e w7 ⟨rfl, hk7⟩
        have H7 := Lib.hid (H6.out.keep hk7)
        have HK7 := Lib.hid (HK6.out.trans hk7)
        have hs7 : b ≤ w7.heap.size := by have := hk7.size; omega
        clear hk7 s1 s2 s3
        go_wp2_with fail
        refine (HWS.out _ _ H7.out (by rw [List.length_append, List.length_append]; simp only [List.length_cons, List.length_nil]; omega) hs7).mono ?_
        rintro e w8 ⟨rfl, h8, hb8, ko8⟩
        have HK8 := Lib.hid (HK7.out.under (HB.out ▸ hb8))
        have H8 := Lib.hid h8
        have hs8 : b < w8.heap.size := by have := hb8.size; have := HK7.out.size; have := HB.out; have h9 := H7.out.lt; omega
        clear h8 hb8 ko8
        go_wp2
        go_roundw
        case rel => exact ⟨m + 1, by omega, by go_num, by rw [HX2.out, ← List.append_assoc, ← List.append_assoc]; exact H8.out, HK8.out, hs8⟩
        case measure => simp [intOf]; omega
       ·have hx2 := HNX2.out
        rw [if_pos (by omega), List.append_nil] at hx2
        have HX2 := Lib.hid hx2
        clear hx2
        have hbs3 : b < wr.heap.size + 1 := by omega
        go_wp2_with fail
        refine (HVA.out _ (HK5.out.trans HKA.out)).mono ?_
        rintro e w7 ⟨rfl, hk7⟩
        have H7 := Lib.hid (HBA.out.keep hk7)
        have HK7 := Lib.hid (HKA.out.trans hk7)
        have hs7 : b ≤ w7.heap.size := by have := hk7.size; simp at this; omega
        clear hk7
        go_wp2_with fail
        refine (HWS.out _ _ H7.out (by rw [List.length_append]; omega) hs7).mono ?_
        rintro e w8 ⟨rfl, h8, hb8, ko8⟩
        have HK8 := Lib.hid (HK7.out.under (HB.out ▸ hb8))
        have H8 := Lib.hid h8
        have hs8 : b < w8.heap.size := by have := hb8.size; have h9 := H7.out.lt; omega
        clear h8 hb8 ko8
        go_wp2
        go_roundw
        case rel => exact ⟨m + 1, by omega, by go_num, by rw [HX2.out, ← List.append_assoc]; exact H8.out, HK8.out, hs8⟩
        case measure => simp [intOf]; omega
      ·obtain rfl : m = r.length := by omega
       have hwb := writeByte_any hbl 10 (by rw [List.length_append]; omega) (by omega)
       have HWB := Lib.hid hwb
       have HK2 := Lib.hid hk2
       clear hwb hbl hk2 hRr
       go_wp2_with fail
       refine HWB.out.mono ?_
       rintro e w6 ⟨rfl, h6, hb6, ko6⟩
       have HK6 := Lib.hid (HK2.out.under (HB.out ▸ hb6))
       have H6 := Lib.hid h6
       have hs6 : b < w6.heap.size := by have := hb6.size; omega
       clear h6 hb6 ko6
       go_wp2
       go_roundw
       case rel => exact ⟨n + 1, by omega, by go_num, by rw [HNX.out, ← List.append_assoc, HT1.out, ← List.append_assoc]; exact H6.out, HK6.out, hs6⟩
       case measure => simp [intOf]; omega
    ·obtain rfl : n = t.rows.length := by omega
     have HBL2 := Lib.hid hbl
     have HPL : Hid (T0 ++ rowsT t.rows t.rows.length = printL t) := Lib.hid (by rw [← HT0.out]; rfl)
     have hst := Tryz.Builder_String_any b b (T0 ++ rowsT t.rows t.rows.length) wr HBL2.out (by omega)
     have HST := Lib.hid hst
     clear hbl hst
     go_wp2_with fail
     refine HST.out.mono ?_
     rintro e w7 ⟨rfl, hb7⟩
     go_wp2
     go_ret2
     exact ⟨by rw [HPL.out]; rfl, HK5.out.trans (hk2.under (HB.out ▸ hb7))⟩
end Go.Proofs.YtpfkjejknlkkoaaGreatDoor
namespace Go.Proofs.YtpfkjejknlkkoaaGreatDoor
open Go.RowKit
attribute [local go_sem] bs_size bs_extract bs_append bs_toList
def ParseOut (R : PR) (e : Ending) (w' : World) : Prop := match R with
 | .ok t => ∃ A B c d, e = .returned (.tuple #[tAgg A t.cols.length c B t.rows.length d, .nilIface]) ∧ TabIn w' t A B c d
 | .bad x p => ∃ g, e = .returned (.tuple #[tAgg none 0 0 none 0 0, .iface 72 (.pointer (some ⟨g, 0, none⟩))]) ∧ Blk w' g 74 #[.int .i64 x, .int .i64 p]
theorem row_alloc_of {w w' : World} {base : Nat} {e : TypeId} {size n : Nat} {v : Value} {xs : List Value} {o : Obj} (h : w.ownsRow base e size v n xs) (hk : Keeps [] w.drew w') : (w'.alloc o).ownsRow base e size v n xs :=
 (own_keep h (L := []) ⟨hk.os, hk.output, hk.size, hk.block⟩ (fun _ _ => by simp)).alloc o
theorem le_base {w w' : World} {b : Nat} {o : Obj} (h : b ≤ w.heap.size) (hk : Keeps [] w.drew w') : b ≤ (w'.alloc o).heap.size := by
 have h1 := hk.size
 have h2 : w.drew.heap.size = w.heap.size := rfl
 simp
 omega
theorem row_ne {w : World} {base : Nat} {e t : TypeId} {size n : Nat} {v : Value} {xs : List Value} {g : Nat} {cs : Array Value} (h : w.ownsRow base e size v n xs) (hg : Blk w g t cs) (hne : e ≠ t) : v.ownBlock ≠ some g := fun hv => by
 rcases h.2 with ⟨rfl, _⟩ | ⟨g', cap, cur, rfl, _, hh, _⟩
 ·cases hv
 ·have : g' = g := by simpa [Value.ownBlock] using hv
  subst this
  unfold Blk at hg
  rw [hg] at hh
  injection hh with hh
  injection hh with _ h2
  exact hne h2.symm
theorem Keeps.of_drew {w w' : World} {L : List Nat} (h : Keeps L w.drew w') : Keeps L w w' := ⟨h.os, h.output, h.size, h.block⟩
theorem cols_step {w3 wr w5 w6 w7 : World} {bt gw cap n m size : Nat} {v r : Value} {xs ys : List Value} {o : Obj} {e : TypeId} (he : e ≠ 25) (hk3r : Keeps [bt] w3 wr) (hk5 : Keeps [] wr w5)
  (hown : w5.ownsRow w3.heap.size e size v n xs) (hbt : Blk w5 bt 25 #[v, r]) (hk6 : Keeps [] w5.drew w6) (hown7 : w7.ownsRow w3.heap.size e size (.slice (some ⟨gw, 0, none⟩) m cap) m ys) (hgrow : (w6.alloc o).grownBy w7 v.ownBlock) :
  (w7.setCell ⟨bt, 0, none⟩ (.slice (some ⟨gw, 0, none⟩) m cap)).ownsRow w3.heap.size e size (.slice (some ⟨gw, 0, none⟩) m cap) m ys ∧ Blk (w7.setCell ⟨bt, 0, none⟩ (.slice (some ⟨gw, 0, none⟩) m cap)) bt 25 #[.slice (some ⟨gw, 0, none⟩) m cap, r] ∧ Keeps [bt] w3 (w7.setCell ⟨bt, 0, none⟩ (.slice (some ⟨gw, 0, none⟩) m cap)) := by
 have hbt6 := (hbt.keep hk6.of_drew (by simp)).alloc o
 have hne := row_ne hown hbt he
 have hbt7 : Blk w7 bt 25 #[v, r] := (hgrow.block bt hbt6.lt (fun e => hne e.symm)).trans hbt6
 have hne7 := row_ne hown7 hbt7 he
 have hk7 : Keeps [bt] w3 w7 := Keeps.grown (((hk3r.trans (hk5.weaken (by simp))).trans (hk6.of_drew.weaken (by simp))).alloc o) hgrow (fun g hg => .inr (hown.lt g hg).1)
 refine ⟨own_keep hown7 (Keeps.setCell (Keeps.refl [bt] w7) (.inl (by simp)) _) (fun g hg hm => ?_), ?_, hk7.setCell (.inl (by simp)) _⟩
 ·have : g = bt := by simpa using hm
  subst this
  exact hne7 hg
 ·exact (hbt7.set 0 _).congr rfl
set_option maxHeartbeats 1000000 in
theorem fail_any (x p : Int) (w : World) :
  Calls Tryz.prog 37 #[.int .i64 x, .int .i64 p] w fun e w' => ∃ g, e = .returned (.tuple #[.agg #[.slice none 0 0, .slice none 0 0], .iface 72 (.pointer (some ⟨g, 0, none⟩))]) ∧ Blk w' g 74 #[.int .i64 x, .int .i64 p] ∧ Keeps [] w w' := by
 go_enter Tryz.func37, Tryz.ntmps37
 go_wp2
 refine bodyPost_ret (v := .tuple #[.agg #[.slice none 0 0, .slice none 0 0], .iface 72 (.pointer (some ⟨w.heap.size + 1, 0, none⟩))]) (by simp [results, Tryz.results37, go_sem]) rfl ⟨_, rfl, ?_, ?_⟩
 ·have h := Blk.new (w.alloc (.cells #[.slice none 0 0, .slice none 0 0] 25)) 74 #[.int .i64 x, .int .i64 p]
  rw [show (w.alloc (.cells #[.slice none 0 0, .slice none 0 0] 25)).heap.size = w.heap.size + 1 from Array.size_push _] at h
  exact h
 ·repeat first | exact Keeps.refl _ _ | refine Keeps.alloc ?_ _ | refine Keeps.setCell ?_ (.inr (by simp)) _
theorem get0_headD {l : List Bs} (h : 0 < l.length) : l[0] = l.headD [] := by
 cases l with
 | nil => simp at h
 | cons => rfl
theorem colsP_len (l : Bs) : (colsP l).length = (splitC 32 l).length := by simp [colsP]
theorem csCells_take (l : List Cl) (n : Nat) (h : n < l.length) : csCells (l.take (n + 1)) = csCells (l.take n) ++ cCells l[n] := by
 rw [List.take_succ_eq_append_getElem h, csCells_append]
 simp [csCells]
theorem cinfo : (Tryz.prog.info? 39).map (fun i => (i.zero, i.size, i.bytes)) = some (some (.agg #[.string ⟨#[]⟩, .int .i64 0]), 2, 24) := by kernel_rfl
theorem vinfo : (Tryz.prog.info? 32).map (fun i => (i.zero, i.size, i.bytes)) = some (some (.agg #[.int .i64 0, .int .i64 0, .string ⟨#[]⟩]), 3, 32) := by kernel_rfl
theorem rinfo : (Tryz.prog.info? 41).map (fun i => (i.zero, i.size, i.bytes)) = some (some (.slice none 0 0), 1, 24) := by kernel_rfl
theorem colsP_names (l : Bs) : ∀ x ∈ colsP l, x.name.length ≤ l.length := fun x hx => by
 obtain ⟨u, hu, rfl⟩ := List.mem_map.1 hx
 exact Nat.le_trans (cutC_len 58 u).1 ((splitC_len 32 l).2.2 u hu)
def Rws (W : World) (base : Nat) (vr : Value) (rs : List (List Vl)) : Prop :=
 ∃ us : List Value, us.length = rs.length ∧ W.ownsRow base 41 1 vr rs.length us ∧ ∀ i (h : i < us.length) (h' : i < rs.length), W.ownsRow base 32 3 us[i] rs[i].length (vsCells rs[i])
theorem Rws.nil (W : World) (base : Nat) : Rws W base (.slice none 0 0) [] := ⟨[], rfl, World.ownsRow_nil _ _ _ _, fun i h => by simp at h⟩
theorem drop_at (l : List Bs) (m : Nat) (h : m + 1 < l.length) : l.tail.drop m = l[m + 1] :: l.tail.drop (m + 1) := by
 cases l with
 | nil => simp at h
 | cons a t =>
  simp only [List.tail_cons, List.getElem_cons_succ]
  exact List.drop_eq_getElem_cons (by simpa using h)
theorem cols_right {l : Bs} {M : Nat} {w3 W : World} {v : Value} (hM : (splitC 32 l).length = M) (h1 : 1 ≤ M) (h2 : M ≤ 4294967296) (hl : l.length ≤ 1000000) (h : W.ownsRow w3.heap.size 39 2 v M (csCells ((colsP l).take M))) :
  Calls Tryz.prog 40 #[v] W fun e w' => e = .returned (.bool (colsB (colsP l))) ∧ Keeps [] W w' := by
 obtain ⟨g, cap, rfl, hcap⟩ : ∃ g cap, v = .slice (some ⟨g, 0, none⟩) M cap ∧ M ≤ cap := by
  rcases h.2 with ⟨_, h0⟩ | ⟨g, cap, cur, hv, _, _, hc, _⟩
  ·omega
  ·exact ⟨g, cap, hv, hc⟩
 have hlen : (colsP l).length = M := by rw [colsP_len, hM]
 rw [List.take_of_length_le (by omega)] at h
 subst hlen
 exact rightCols_any (colsP l) _ cap W (Rd.of_own h (fun _ _ => by simp)) hcap (fun x hx => Nat.le_trans (colsP_names l x hx) (by omega)) h2
theorem own_rd {w : World} {base : Nat} {e : TypeId} {size n : Nat} {v : Value} {xs : List Value} (h : w.ownsRow base e size v n xs) : ∃ A c, v = .slice A n c ∧ n ≤ c ∧ Rd w [] size A n xs := by
 rcases h.2 with ⟨rfl, rfl⟩ | ⟨g, cap, cur, rfl, hb, hh, hc, r⟩
 ·refine ⟨none, 0, rfl, Nat.le_refl _, ?_⟩
  have : xs = [] := List.eq_nil_of_length_eq_zero (by rw [h.1]; simp)
  rw [this]
  exact Rd.nil
 ·exact ⟨_, cap, rfl, hc, Rd.of_own h (fun _ _ => by simp)⟩
theorem own_some {w : World} {base : Nat} {e : TypeId} {size n : Nat} {v : Value} {xs : List Value} (h : w.ownsRow base e size v n xs) (h1 : 1 ≤ n) : ∃ g cap, v = .slice (some ⟨g, 0, none⟩) n cap ∧ n ≤ cap ∧ base ≤ g ∧ g < w.heap.size ∧ ∀ j u, xs[j]? = some u → w.cell? ⟨g, j, none⟩ = some u := by
 rcases h.2 with ⟨_, h0⟩ | ⟨g, cap, cur, rfl, hb, hh, hc, r⟩
 ·omega
 ·refine ⟨g, cap, rfl, hc, hb, (Array.getElem?_eq_some_iff.1 hh).1, fun j u hu => ?_⟩
  have := h.cells (g := g) rfl j u hu
  rwa [add_at, Nat.zero_add] at this
theorem own_base {w : World} {base base' : Nat} {e : TypeId} {size n : Nat} {v : Value} {xs : List Value} (h : w.ownsRow base' e size v n xs) (hb : base ≤ base') : w.ownsRow base e size v n xs := by
 refine ⟨h.1, ?_⟩
 rcases h.2 with h2 | ⟨g, cap, cur, hv, hg, r⟩
 ·exact .inl h2
 ·exact .inr ⟨g, cap, cur, hv, Nat.le_trans hb hg, r⟩
theorem own_set {w : World} {base b i : Nat} {e t : TypeId} {size n : Nat} {v u : Value} {xs : List Value} {cs : Array Value} (h : w.ownsRow base e size v n xs) (hb : Blk w b t cs) (he : e ≠ t) : (w.setCell ⟨b, i, none⟩ u).ownsRow base e size v n xs :=
 own_keep h (Keeps.setCell (Keeps.refl [b] w) (.inl (by simp)) u) (fun g hg hm => row_ne h hb he (by simp at hm; rw [hg, hm]))
theorem own_keepb {w w' : World} {base b : Nat} {e t : TypeId} {size n : Nat} {v : Value} {xs : List Value} {cs : Array Value} (h : w.ownsRow base e size v n xs) (hk : Keeps [b] w w') (hb : Blk w b t cs) (he : e ≠ t) : w'.ownsRow base e size v n xs :=
 own_keep h hk (fun g hg hm => row_ne h hb he (by simp at hm; rw [hg, hm]))
theorem own_grown {w w' : World} {base e' : Nat} {e : TypeId} {size n : Nat} {v : Value} {xs : List Value} {row : Option Nat} (h : w.ownsRow base e size v n xs) (hg : w.grownBy w' row) (hr : ∀ g, row = some g → ∃ cs fz, w.heap[g]? = some (.cells cs e' fz)) (he : e ≠ e') : w'.ownsRow base e size v n xs := by
 refine own_keep (L := row.toList) h (Keeps.grown (Keeps.refl _ w) hg (fun g hg => .inl (by rw [hg]; simp))) (fun g hv hm => ?_)
 obtain ⟨cs, fz, hh⟩ := hr g (by cases row with
  | none => cases hm
  | some x => simp at hm; rw [hm])
 rcases h.2 with ⟨rfl, _⟩ | ⟨g', cap, cur, rfl, _, hh', _⟩
 ·cases hv
 ·have : g' = g := by simpa [Value.ownBlock] using hv
  subst this
  rw [hh] at hh'
  injection hh' with hh'
  injection hh' with _ h2
  exact he h2.symm
theorem own_kind {w : World} {base : Nat} {e : TypeId} {size n : Nat} {v : Value} {xs : List Value} (h : w.ownsRow base e size v n xs) : ∀ g, v.ownBlock = some g → ∃ cs fz, w.heap[g]? = some (.cells cs e fz) := fun g hg => by
 rcases h.2 with ⟨rfl, _⟩ | ⟨g', cap, cur, rfl, _, hh', _⟩
 ·cases hg
 ·have : g' = g := by simpa [Value.ownBlock] using hg
  subst this
  exact ⟨_, _, hh'⟩
section
variable {W W' : World} {base b i : Nat} {vr u vq : Value} {rs : List (List Vl)} {q : List Vl} {cs : Array Value} {t : TypeId}
theorem Rws.keep (h : Rws W base vr rs) (hk : Keeps [] W W') : Rws W' base vr rs := by
 obtain ⟨us, h1, h2, h3⟩ := h
 exact ⟨us, h1, own_keep h2 hk (fun _ _ => by simp), fun i a c => own_keep (h3 i a c) hk (fun _ _ => by simp)⟩
theorem Rws.keepb (h : Rws W base vr rs) (hk : Keeps [b] W W') (hb : Blk W b t cs) (h1 : 41 ≠ t) (h2 : 32 ≠ t) : Rws W' base vr rs := by
 obtain ⟨us, hu, h3, h4⟩ := h
 exact ⟨us, hu, own_keepb h3 hk hb h1, fun i a c => own_keepb (h4 i a c) hk hb h2⟩
theorem Rws.set (h : Rws W base vr rs) (hb : Blk W b t cs) (h1 : 41 ≠ t) (h2 : 32 ≠ t) : Rws (W.setCell ⟨b, i, none⟩ u) base vr rs :=
 h.keepb (Keeps.setCell (Keeps.refl [b] W) (.inl (by simp)) u) hb h1 h2
theorem Rws.rd (h : Rws W base vr rs) : ∃ B d, vr = .slice B rs.length d ∧ rs.length ≤ d ∧ RdRows W [] B rs := by
 obtain ⟨us, h1, h2, h3⟩ := h
 obtain ⟨B, d, hv, hd, hr⟩ := own_rd h2
 refine ⟨B, d, hv, hd, us, h1, hr, fun i a c => ?_⟩
 obtain ⟨A, k, hv, hk, hr⟩ := own_rd (h3 i a c)
 exact ⟨A, k, hv, hk, hr⟩
theorem rws_snoc {us : List Value} {o : Obj} {gw cap : Nat} (h1 : us.length = rs.length) (h3 : ∀ i (h : i < us.length) (h' : i < rs.length), W.ownsRow base 32 3 us[i] rs[i].length (vsCells rs[i]))
  (hv : W.ownsRow base 41 1 vr rs.length us) (hq : W.ownsRow base 32 3 vq q.length (vsCells q)) (hg : (W.alloc o).grownBy W' vr.ownBlock)
  (hown : W'.ownsRow base 41 1 (.slice (some ⟨gw, 0, none⟩) (rs.length + 1) cap) (rs.length + 1) (us ++ [vq])) : Rws W' base (.slice (some ⟨gw, 0, none⟩) (rs.length + 1) cap) (rs ++ [q]) := by
 refine ⟨us ++ [vq], by simp [h1], by simpa using hown, fun i a c => ?_⟩
 have hkind := fun g hg => own_kind (hv.alloc o) g hg
 by_cases hi : i < us.length
 ·rw [List.getElem_append_left hi, List.getElem_append_left (by omega)]
  exact own_grown ((h3 i hi (by omega)).alloc o) hg hkind (by decide)
 ·have hi' : i = us.length := by simp at a; omega
  subst hi'
  rw [List.getElem_append_right (Nat.le_refl _), List.getElem_append_right (by omega)]
  simp only [h1, Nat.sub_self, List.getElem_cons_zero]
  exact own_grown (hq.alloc o) hg hkind (by decide)
end
theorem tabIn_of {W : World} {base base' n : Nat} {v vr : Value} {cols : List Cl} {rs : List (List Vl)} (hn : cols.length = n) (hv : W.ownsRow base 39 2 v n (csCells cols)) (hr : Rws W base' vr rs) (h1 : ∀ x ∈ cols, x.name.length ≤ 1000000000) (h2 : cols.length ≤ 4294967296) (h3 : rs.length ≤ 60) (h4 : ∀ r ∈ rs, r.length ≤ 4294967296) :
  ∃ A B c d, v = .slice A cols.length c ∧ vr = .slice B rs.length d ∧ TabIn W ⟨cols, rs⟩ A B c d := by
 subst hn
 obtain ⟨A, c, e1, hc, hA⟩ := own_rd hv
 obtain ⟨B, d, e2, hd, hB⟩ := hr.rd
 exact ⟨A, B, c, d, e1, e2, hA, hc, hB, hd, h1, h2, by simp only; omega, h4⟩
theorem pval_none {p : Bs} (h : pvL p = none) (hs : p.length ≤ 1000000000) (w : World) (hE : TEnv w) :
  Calls Tryz.prog 42 #[.string (bs p)] w fun e w' => e = .returned (.tuple #[.agg #[.int .i64 0, .int .i64 0, .string ⟨#[]⟩], .iface 71 (.int .i64 3)]) ∧ Keeps [] w w' := by
 have := parseValue_any p hs w hE
 rw [h] at this
 exact this
theorem pval_some {p : Bs} {u : Vl} (h : pvL p = some u) (hs : p.length ≤ 1000000000) (w : World) (hE : TEnv w) :
  Calls Tryz.prog 42 #[.string (bs p)] w fun e w' => e = .returned (.tuple #[.agg #[.int .i64 u.kind, .int .i64 u.num, .string (bs u.word)], .nilIface]) ∧ Keeps [] w w' := by
 have := parseValue_any p hs w hE
 rw [h] at this
 exact this
theorem heap_two (w : World) (o o2 : Obj) : ((w.alloc o).alloc o2).heap[w.heap.size + 1]? = some o2 := by
 have h := heap_alloc_new (w.alloc o) o2
 rw [show (w.alloc o).heap.size = w.heap.size + 1 from Array.size_push _] at h
 exact h
theorem blk_num {w : World} {g : Nat} {t : TypeId} {x y z : Int} (h : Blk w g t #[.int .i64 x, .int .i64 y]) (hy : y = z) : Blk w g t #[.int .i64 x, .int .i64 z] := hy ▸ h
theorem vsCells_snoc (q : List Vl) (v : Vl) : vsCells (q ++ [v]) = vsCells q ++ [.int .i64 v.kind, .int .i64 v.num, .string (bs v.word)] := by simp [vsCells, vCells]
theorem valsP_step {ps : List Bs} {n : Nat} (h : n < ps.length) (q : List Vl) : valsP (ps.drop n) q = match pvL ps[n] with
  | none => none
  | some v => valsP (ps.drop (n + 1)) (q ++ [v]) := by
 rw [List.drop_eq_getElem_cons h]
 rfl
theorem fits_false {cols : List Cl} {q : List Vl} (h : q.length ≠ cols.length) : fits cols q = false := by
 unfold fits
 rw [decide_eq_false h]
 rfl
theorem fits_bad {cols : List Cl} {q : List Vl} {j : Nat} (h : j < q.length) (h' : j < cols.length) (hne : q[j].kind ≠ cols[j].kind) : fits cols q = false := by
 unfold fits
 rw [Bool.and_eq_false_iff]
 right
 rw [List.all_eq_false]
 refine ⟨(q[j], cols[j]), ?_, by simpa using hne⟩
 rw [List.mem_iff_getElem]
 exact ⟨j, by rw [List.length_zip]; omega, by simp⟩
theorem fits_true {cols : List Cl} {q : List Vl} (h : q.length = cols.length) (hj : ∀ j (h : j < q.length) (h' : j < cols.length), q[j].kind = cols[j].kind) : fits cols q = true := by
 unfold fits
 rw [decide_eq_true h, Bool.true_and, List.all_eq_true]
 intro p hp
 obtain ⟨i, hi, rfl⟩ := List.getElem_of_mem hp
 have := hj i (by rw [List.length_zip] at hi; omega) (by rw [List.length_zip] at hi; omega)
 simpa using this
end Go.Proofs.YtpfkjejknlkkoaaGreatDoor
namespace Go.Proofs.YtpfkjejknlkkoaaGreatDoor
open Go.RowKit Go.BigFrame
def RowsIs (w : World) (u : Value) (rs : List (List Vl)) : Prop := ∃ A c, u = .slice A rs.length c ∧ rs.length ≤ c ∧ RdRows w [] A rs
def RdTabs (w : World) (A : Option Addr) (l : List (List (List Vl))) : Prop :=
 ∃ us : List Value, us.length = l.length ∧ Rd w [] 1 A l.length us ∧ ∀ i (h : i < us.length) (h' : i < l.length), RowsIs w us[i] l[i]
def MadeOut (R : Except Int (List (List (List Vl)))) (e : Ending) (w' : World) : Prop := match R with
 | .error x => e = .returned (.tuple #[.slice none 0 0, .iface 71 (.int .i64 x)])
 | .ok out => ∃ B d, e = .returned (.tuple #[.slice B out.length d, .nilIface]) ∧ out.length ≤ d ∧ RdTabs w' B out
theorem RowsIs.keep {w w' : World} {u : Value} {l : List (List Vl)} (h : RowsIs w u l) (hk : Keeps [] w w') : RowsIs w' u l := by
 obtain ⟨A, c, e, hc, h⟩ := h
 exact ⟨A, c, e, hc, h.keep hk⟩
theorem RdTabs.keep {w w' : World} {A : Option Addr} {ls : List (List (List Vl))} (h : RdTabs w A ls) (hk : Keeps [] w w') : RdTabs w' A ls := by
 obtain ⟨us, h1, h2, h3⟩ := h
 exact ⟨us, h1, h2.keep hk, fun i a b => (h3 i a b).keep hk⟩
theorem MadeOut.split {R : Except Int (List (List (List Vl)))} {e : Ending} {w : World} (h : MadeOut R e w) : ∃ u v, e = .returned (.tuple #[u, v]) ∧ MadeOut R (.returned (.tuple #[u, v])) w := by
 cases R with
 | error x => exact ⟨_, _, h, rfl⟩
 | ok out =>
  obtain ⟨B, d, rfl, h1, h2⟩ := h
  exact ⟨_, _, rfl, B, d, rfl, h1, h2⟩
theorem tabs_at {w : World} {g : Nat} {us : List Value} {l : List (List (List Vl))} (h1 : us.length = l.length) (hg : g < w.heap.size) (hc : ∀ j u, us[j]? = some u → w.cell? ⟨g, j, none⟩ = some u) (h : ∀ i (h : i < us.length) (h' : i < l.length), RowsIs w us[i] l[i]) : RdTabs w (some ⟨g, 0, none⟩) l := by
 refine ⟨us, h1, ⟨by omega, fun _ => ⟨_, rfl, by simp, hg, fun j u hu => ?_⟩⟩, h⟩
 rw [add_at, Nat.zero_add]
 exact hc j u hu
theorem tabs_one {w : World} {u : Value} {l : List (List Vl)} (h : RowsIs w u l) (t : TypeId) : RdTabs (w.alloc (.cells #[u] t)) (some ⟨w.heap.size, 0, none⟩) [l] := by
 have hk : Keeps [] w (w.alloc (.cells #[u] t)) := (Keeps.refl _ _).alloc _
 refine tabs_at (us := [u]) rfl (Blk.new _ _ _).lt (fun j x hx => ?_) (fun i h1 h2 => ?_)
 ·rw [(Blk.new w t #[u]).cell j]
  simpa using hx
 ·have hi : i = 0 := by simp at h1; omega
  subst hi
  exact h.keep hk
def Gath (w W : World) (base : Nat) (v : Value) (rs : List (List Vl)) : Prop :=
 ∃ us : List Value, us.length = rs.length ∧ W.ownsRow base 41 1 v rs.length us ∧ ∀ i (h : i < us.length) (h' : i < rs.length), RowIs w [] us[i] rs[i]
theorem Gath.nil (w _W : World) (base : Nat) : Gath w _W base (.slice none 0 0) [] := ⟨[], rfl, World.ownsRow_nil _ _ _ _, fun i h => by simp at h⟩
theorem Gath.keep {w W W' : World} {base : Nat} {v : Value} {rs : List (List Vl)} (h : Gath w W base v rs) (hk : Keeps [] W W') : Gath w W' base v rs := by
 obtain ⟨us, h1, h2, h3⟩ := h
 exact ⟨us, h1, own_keep h2 hk (fun _ _ => by simp), h3⟩
theorem Gath.kept {w W W' : World} {base : Nat} {v : Value} {rs : List (List Vl)} {row : Option Nat} (h : Gath w W base v rs) (hg : W.grownBy W' row) (hne : v.ownBlock = none ∨ v.ownBlock ≠ row) : Gath w W' base v rs := by
 obtain ⟨us, h1, h2, h3⟩ := h
 exact ⟨us, h1, h2.kept hg hne, h3⟩
theorem Gath.is {w W : World} {base : Nat} {v : Value} {rs : List (List Vl)} (h : Gath w W base v rs) (hk : Keeps [] w W) : RowsIs W v rs := by
 obtain ⟨us, h1, h2, h3⟩ := h
 obtain ⟨A, c, e, hc, hr⟩ := own_rd h2
 exact ⟨A, c, e, hc, us, h1, hr, fun i a b => (h3 i a b).keep hk⟩
theorem gath_snoc {w W' : World} {base gw cap : Nat} {us : List Value} {rs : List (List Vl)} {r : List Vl} {u : Value} (h1 : us.length = rs.length) (h3 : ∀ i (h : i < us.length) (h' : i < rs.length), RowIs w [] us[i] rs[i]) (hu : RowIs w [] u r)
  (hown : W'.ownsRow base 41 1 (.slice (some ⟨gw, 0, none⟩) (rs.length + 1) cap) (rs.length + 1) (us ++ [u])) : Gath w W' base (.slice (some ⟨gw, 0, none⟩) (rs.length + 1) cap) (rs ++ [r]) := by
 refine ⟨us ++ [u], by simp [h1], by simpa using hown, fun i a b => ?_⟩
 by_cases hi : i < us.length
 ·rw [List.getElem_append_left hi, List.getElem_append_left (by omega)]
  exact h3 i hi (by omega)
 ·have hi' : i = us.length := by simp at a; omega
  subst hi'
  rw [List.getElem_append_right (Nat.le_refl _), List.getElem_append_right (by omega)]
  simpa [h1] using hu
end Go.Proofs.YtpfkjejknlkkoaaGreatDoor
