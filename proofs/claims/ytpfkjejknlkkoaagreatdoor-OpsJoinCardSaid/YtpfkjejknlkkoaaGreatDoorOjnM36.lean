/- Tables opened. OpsJoin: the walk. A row's wrap; what a laid list says of variables: for any seat. -/
import Derived.Test.YtpfkjejknlkkoaaGreatDoorOjnM35
import Derived.Test.YtpfkjejknlkkoaaGreatDoorOjnM34
import Derived.Test.YtpfkjejknlkkoaaGreatDoorOjnM13
import Derived.Test.YtpfkjejknlkkoaaGreatDoorOjnM18
import Derived.Deep.CutRange
import Derived.Test.YtpfkjejknlkkoaaGreatDoorRows
import Derived.Test.YtpfkjejknlkkoaaGreatDoorProg
import Derived.Lib.LaidTab
import Derived.LaidLaws
import Derived.LaidSub
import Derived.LaidMore
import Derived.Shelf.Vars
import Derived.HandedShaped
set_option linter.unusedSimpArgs false
set_option linter.unusedVariables false
namespace Go.Proofs.YtpfkjejknlkkoaaGreatDoor
open Go.RowKit Go.ChangeShapes Go.WideShapes Go.Joins
open Go.Deep (oneCellFields hone_of)
section
variable {H : Type} {enc : TypeId × Value → H} {w : World} {base b0 : Nat} {spare : Nat → Bool} {held : Bool} {v : Value} {d : DataW H} {p : List MemPlace} {r : Reach}
structure TabAny (w : World) (t : Tb) (A B : Option Addr) (c d : Nat) : Prop where
 cols : Rd w [] 2 A t.cols.length (csCells t.cols)
 cc : t.cols.length ≤ c
 rows : RdRows w [] B t.rows
 cd : t.rows.length ≤ d
 names : ∀ x ∈ t.cols, x.name.length ≤ maxLen
 vals : ∀ r ∈ t.rows, r.length ≤ maxLen ∧ ∀ v ∈ r, v.word.length ≤ maxLen ∧ numOk v.num
set_option maxRecDepth 100000 in
theorem open_table (hv : Value.okWide Tryz.prog w r b0 25 v) (h : DataW.Trod enc Tryz.prog w base spare held 25 v d p) : ∃ (t : Tb) (A B : Option Addr) (c c' : Nat), v = tAgg A t.cols.length c B t.rows.length c' ∧ TabAny w t A B c c' := by
 obtain ⟨v0, v1, y0, y1, n, rfl, _, _, h0, h1⟩ := open_agg2 Tryz.underlying25 (by kernel_rfl) (by kernel_rfl) hv h
 obtain ⟨A, c, l, e0, ha, _, hb, hn⟩ := open_cols h0
 obtain ⟨B, c', rs, e1, hc, _, hd, hr⟩ := open_rows h1
 injection e0 with e0
 injection e1 with e1
 subst e0 e1
 exact ⟨⟨l, rs⟩, A, B, c, c', rfl, hb, ha, hd, hc, hn, hr⟩
theorem TabAny.inn {w : World} {t : Tb} {A B : Option Addr} {c d : Nat} (h : TabAny w t A B c d) (hs : smallB t = true) : TabIn w t A B c d ∧ TabRd w t A B := by
 unfold smallB at hs
 simp only [Bool.and_eq_true, Bool.not_eq_true', Bool.or_eq_false_iff, decide_eq_false_iff_not, List.any_eq_false] at hs
 obtain ⟨⟨⟨h1, h2⟩, h3⟩, h4⟩ := hs
 have hr : ∀ r ∈ t.rows, r.length ≤ 4294967296 := fun r hr => by
  have := h4 r hr
  simp at this
  omega
 exact ⟨⟨h.cols, h.cc, h.rows, h.cd, fun x hx => by have := h3 x hx; simp at this; omega, by omega, by omega, hr⟩, ⟨h.cols, h.rows, by omega, by omega, hr⟩⟩
end
end Go.Proofs.YtpfkjejknlkkoaaGreatDoor
namespace Go.Proofs.YtpfkjejknlkkoaaGreatDoor
open Go.RowKit Go.BigFrame
attribute [local go_sem] bs_size bs_extract bs_append bs_toList
attribute [local go_sem] KW.cell
theorem isNj1_any (nm : Bs) (d : Cl) (b : Nat) (w : World) (hb : w.cell? ⟨b, 0, none⟩ = some (.string (bs nm))) :
  Calls Tryz.prog 9 #[cAgg d, .pointer (some ⟨b, 0, none⟩)] w fun e w' => e = .returned (.bool (d.name == nm)) ∧ Keeps [] w w' := by
 have hlt := World.block_lt_of_cell? _ _ hb
 have hb' : (w.alloc (.cells #[.string (bs d.name), .int .i64 d.kind] 39)).cell? ⟨b, 0, none⟩ = some (.string (bs nm)) := ((Keeps.refl [] w).alloc _).cell_of hb (by simp)
 have HK := Lib.hid ((Keeps.refl [] w).alloc (.cells #[.string (bs d.name), .int .i64 d.kind] 39))
 show Calls _ _ #[.agg #[.string (bs d.name), .int .i64 d.kind], .pointer (some ⟨b, 0, none⟩)] w _
 go_enter Tryz.func9, Tryz.ntmps9
 go_wp2
 go_ret
 exact ⟨rfl, HK.out⟩
theorem ixNj1_any (l : List Cl) (nm : Bs) (A : Option Addr) (c b : Nat) (w : World) (hA : Rd w [] 2 A l.length (csCells l)) (hl : l.length ≤ 4294967296) (hb : w.cell? ⟨b, 0, none⟩ = some (.string (bs nm))) :
  Calls Tryz.prog 8 #[.slice A l.length c, .func (.func 9) #[] #[.pointer (some ⟨b, 0, none⟩)]] w fun e w' => e = .returned (.int .i64 (optI (colIx l nm))) ∧ Keeps [] w w' := by
 have h := indexFuncC_any 9 #[.pointer (some ⟨b, 0, none⟩)] (enters_of Tryz.func9 (by kernel_rfl) rfl) (fun c => c.name == nm) l A c w hA hl (fun d _ W q => isNj1_any nm d _ W (q.cell_of hb (by simp)))
 rw [findIxC_col] at h
 exact h
theorem isNj2_any (nm : Bs) (d : Cl) (b : Nat) (w : World) (hb : w.cell? ⟨b, 0, none⟩ = some (.string (bs nm))) :
  Calls Tryz.prog 10 #[cAgg d, .pointer (some ⟨b, 0, none⟩)] w fun e w' => e = .returned (.bool (d.name == nm)) ∧ Keeps [] w w' := by
 have hlt := World.block_lt_of_cell? _ _ hb
 have hb' : (w.alloc (.cells #[.string (bs d.name), .int .i64 d.kind] 39)).cell? ⟨b, 0, none⟩ = some (.string (bs nm)) := ((Keeps.refl [] w).alloc _).cell_of hb (by simp)
 have HK := Lib.hid ((Keeps.refl [] w).alloc (.cells #[.string (bs d.name), .int .i64 d.kind] 39))
 show Calls _ _ #[.agg #[.string (bs d.name), .int .i64 d.kind], .pointer (some ⟨b, 0, none⟩)] w _
 go_enter Tryz.func10, Tryz.ntmps10
 go_wp2
 go_ret
 exact ⟨rfl, HK.out⟩
theorem ixNj2_any (l : List Cl) (nm : Bs) (A : Option Addr) (c b : Nat) (w : World) (hA : Rd w [] 2 A l.length (csCells l)) (hl : l.length ≤ 4294967296) (hb : w.cell? ⟨b, 0, none⟩ = some (.string (bs nm))) :
  Calls Tryz.prog 8 #[.slice A l.length c, .func (.func 10) #[] #[.pointer (some ⟨b, 0, none⟩)]] w fun e w' => e = .returned (.int .i64 (optI (colIx l nm))) ∧ Keeps [] w w' := by
 have h := indexFuncC_any 10 #[.pointer (some ⟨b, 0, none⟩)] (enters_of Tryz.func10 (by kernel_rfl) rfl) (fun c => c.name == nm) l A c w hA hl (fun d _ W q => isNj2_any nm d _ W (q.cell_of hb (by simp)))
 rw [findIxC_col] at h
 exact h
theorem isNj3_any (nm : Bs) (d : Cl) (b : Nat) (w : World) (hb : w.cell? ⟨b, 0, none⟩ = some (.string (bs nm))) :
  Calls Tryz.prog 11 #[cAgg d, .pointer (some ⟨b, 0, none⟩)] w fun e w' => e = .returned (.bool (d.name == nm)) ∧ Keeps [] w w' := by
 have hlt := World.block_lt_of_cell? _ _ hb
 have hb' : (w.alloc (.cells #[.string (bs d.name), .int .i64 d.kind] 39)).cell? ⟨b, 0, none⟩ = some (.string (bs nm)) := ((Keeps.refl [] w).alloc _).cell_of hb (by simp)
 have HK := Lib.hid ((Keeps.refl [] w).alloc (.cells #[.string (bs d.name), .int .i64 d.kind] 39))
 show Calls _ _ #[.agg #[.string (bs d.name), .int .i64 d.kind], .pointer (some ⟨b, 0, none⟩)] w _
 go_enter Tryz.func11, Tryz.ntmps11
 go_wp2
 go_ret
 exact ⟨rfl, HK.out⟩
theorem ixNj3_any (l : List Cl) (nm : Bs) (A : Option Addr) (c b : Nat) (w : World) (hA : Rd w [] 2 A l.length (csCells l)) (hl : l.length ≤ 4294967296) (hb : w.cell? ⟨b, 0, none⟩ = some (.string (bs nm))) :
  Calls Tryz.prog 8 #[.slice A l.length c, .func (.func 11) #[] #[.pointer (some ⟨b, 0, none⟩)]] w fun e w' => e = .returned (.int .i64 (optI (colIx l nm))) ∧ Keeps [] w w' := by
 have h := indexFuncC_any 11 #[.pointer (some ⟨b, 0, none⟩)] (enters_of Tryz.func11 (by kernel_rfl) rfl) (fun c => c.name == nm) l A c w hA hl (fun d _ W q => isNj3_any nm d _ W (q.cell_of hb (by simp)))
 rw [findIxC_col] at h
 exact h
theorem small_len {t : Tb} (hs : smallB t = true) : t.cols.length ≤ 8 ∧ t.rows.length ≤ 65 := by
 unfold smallB at hs
 simp only [Bool.and_eq_true, Bool.not_eq_true', Bool.or_eq_false_iff, decide_eq_false_iff_not, List.any_eq_false] at hs
 obtain ⟨⟨⟨h1, h2⟩, _⟩, _⟩ := hs
 omega
def sumM (m : Nat) (rs : List (List Vl)) : Int := (rs.map fun r => (r.getD m zV).num).sum
theorem sumM_succ (m : Nat) (rs : List (List Vl)) (i : Nat) (h : i < rs.length) : sumM m (rs.take (i + 1)) = sumM m (rs.take i) + (rs[i].getD m zV).num := by
 unfold sumM
 rw [List.take_succ_eq_append_getElem h, List.map_append, List.map_cons, List.map_nil, sum_snoc]
theorem sumM_bd (m : Nat) (rs : List (List Vl)) (h : ∀ r ∈ rs, -1000000000 ≤ (r.getD m zV).num ∧ (r.getD m zV).num ≤ 1000000000) : -((rs.length : Int) * 1000000000) ≤ sumM m rs ∧ sumM m rs ≤ (rs.length : Int) * 1000000000 := by
 induction rs with
 | nil => simp [sumM]
 | cons r rs ih =>
  have h1 := h r (by simp)
  have h2 := ih fun q hq => h q (by simp [hq])
  have e : sumM m (r :: rs) = (r.getD m zV).num + sumM m rs := by simp [sumM]
  rw [e, List.length_cons]
  omega
set_option maxHeartbeats 16000000 in
set_option maxRecDepth 100000 in
theorem ojoin_all (a b : Tb) (A B : Option Addr) (c d : Nat) (A' B' : Option Addr) (c' d' : Nat) (x y : Bs) (w : World) (hT : TabAny w a A B c d) (hU : TabAny w b A' B' c' d') (hE : OEnv w) :
  Calls Tryz.prog 3 #[tAgg A a.cols.length c B a.rows.length d, tAgg A' b.cols.length c' B' b.rows.length d', .string (bs x), .string (bs y)] w fun e w' => e = .returned (.bool true) ∧ Keeps [] w w' := by
 have HS1 : Hid (∀ W, Keeps [] w W → Calls Tryz.prog 5 #[.agg #[.slice A a.cols.length c, .slice B a.rows.length d]] W fun e W' => e = .returned (.bool (smallB a)) ∧ Keeps [] W W') := Lib.hid fun W q => small_any a A B c d W (hT.cols.keep q) (hT.rows.keep q)
 have HS2 : Hid (∀ W, Keeps [] w W → Calls Tryz.prog 5 #[.agg #[.slice A' b.cols.length c', .slice B' b.rows.length d']] W fun e W' => e = .returned (.bool (smallB b)) ∧ Keeps [] W W') := Lib.hid fun W q => small_any b A' B' c' d' W (hU.cols.keep q) (hU.rows.keep q)
 have HDN := Lib.hid (fun W (q : Keeps [] w W) => done_any W (hE.quiet q))
 have HTN : Hid (smallB a = true → TabIn w a A B c d ∧ a.cols.length ≤ 8 ∧ a.rows.length ≤ 65) := Lib.hid fun h => ⟨(hT.inn h).1, small_len h⟩
 have HUN : Hid (smallB b = true → TabIn w b A' B' c' d' ∧ b.cols.length ≤ 8 ∧ b.rows.length ≤ 65) := Lib.hid fun h => ⟨(hU.inn h).1, small_len h⟩
 have HE := Lib.hid hE
 obtain ⟨x0, hx0⟩ : ∃ x0, ((((w.alloc (.cells #[.slice A a.cols.length c, .slice B a.rows.length d] 25)).alloc (.cells #[.slice A' b.cols.length c', .slice B' b.rows.length d'] 25)).alloc (.cells #[.string (bs x)] 9)).alloc (.cells #[.string (bs y)] 9)) = x0 := ⟨_, rfl⟩
 have HK0 : Hid (Keeps [] w x0) := Lib.hid (by rw [← hx0]; exact ((((Keeps.refl _ _).alloc _).alloc _).alloc _).alloc _)
 have HB1 : Hid (Blk x0 w.heap.size 25 #[.slice A a.cols.length c, .slice B a.rows.length d]) := Lib.hid (by rw [← hx0]; exact (((Blk.new _ _ _).alloc _).alloc _).alloc _)
 have HB2 : Hid (Blk x0 (w.heap.size + 1) 25 #[.slice A' b.cols.length c', .slice B' b.rows.length d']) := Lib.hid (by
  have h := Blk.new (w.alloc (.cells #[.slice A a.cols.length c, .slice B a.rows.length d] 25)) 25 #[.slice A' b.cols.length c', .slice B' b.rows.length d']
  simp only [size_alloc] at h
  rw [← hx0]; exact (h.alloc _).alloc _)
 have HB3 : Hid (Blk x0 (w.heap.size + 1 + 1) 9 #[.string (bs x)]) := Lib.hid (by
  have h := Blk.new ((w.alloc (.cells #[.slice A a.cols.length c, .slice B a.rows.length d] 25)).alloc (.cells #[.slice A' b.cols.length c', .slice B' b.rows.length d'] 25)) 9 #[.string (bs x)]
  simp only [size_alloc] at h
  rw [← hx0]; exact h.alloc _)
 have HB4 : Hid (Blk x0 (w.heap.size + 1 + 1 + 1) 9 #[.string (bs y)]) := Lib.hid (by
  have h := Blk.new (((w.alloc (.cells #[.slice A a.cols.length c, .slice B a.rows.length d] 25)).alloc (.cells #[.slice A' b.cols.length c', .slice B' b.rows.length d'] 25)).alloc (.cells #[.string (bs x)] 9)) 9 #[.string (bs y)]
  simp only [size_alloc] at h
  rw [← hx0]; exact h)
 have HX0 := Lib.hid hx0
 clear hT hU hE hx0
 show Calls _ _ #[.agg #[.slice A a.cols.length c, .slice B a.rows.length d], .agg #[.slice A' b.cols.length c', .slice B' b.rows.length d'], .string (bs x), .string (bs y)] w _
 go_enter Tryz.func3, Tryz.ntmps3
 go_upto_region 1 with (fail)
 rw [HX0.out]
 obtain ⟨bt, hbt⟩ : ∃ z, w.heap.size = z := ⟨_, rfl⟩
 rw [hbt] at HB1 HB2 HB3 HB4 ⊢
 clear hbt HX0
 have q0 : x0.cell? ⟨bt, 0, none⟩ = some (.slice A a.cols.length c) := HB1.out.cell 0
 have q1 : x0.cell? ⟨bt, 1, none⟩ = some (.slice B a.rows.length d) := HB1.out.cell 1
 have l1 : bt < x0.heap.size := HB1.out.lt
 cases hsa : smallB a with
 | false =>
  rw [hsa] at HS1
  clear hsa HTN HUN
  go_wp2_with fail
  refine (HS1.out _ HK0.out).mono ?_
  rintro e w2 ⟨rfl, hk2⟩
  have Kw2 := Lib.hid (HK0.out.trans hk2)
  clear hk2
  go_wp2
  go_ret
  exact ⟨rfl, Kw2.out⟩
 | true =>
  rw [hsa] at HS1
  obtain ⟨hTI, hac, har⟩ := HTN.out hsa
  have HT := Lib.hid hTI
  clear hsa HTN hTI
  go_wp2_with fail
  refine (HS1.out _ HK0.out).mono ?_
  rintro e w2 ⟨rfl, hk2⟩
  have Kw2 := Lib.hid hk2
  clear hk2 q0 q1 l1 HS1
  have q0 : w2.cell? ⟨bt + 1, 0, none⟩ = some (.slice A' b.cols.length c') := (HB2.out.keep Kw2.out (by simp)).cell 0
  have q1 : w2.cell? ⟨bt + 1, 1, none⟩ = some (.slice B' b.rows.length d') := (HB2.out.keep Kw2.out (by simp)).cell 1
  have l1 : bt + 1 < w2.heap.size := (HB2.out.keep Kw2.out (by simp)).lt
  cases hsb : smallB b with
  | false =>
   rw [hsb] at HS2
   clear hsb HUN
   go_wp2_with fail
   refine (HS2.out _ (HK0.out.trans Kw2.out)).mono ?_
   rintro e w3 ⟨rfl, hk3⟩
   have Kw3 := Lib.hid (Kw2.out.trans hk3)
   clear hk3
   go_wp2
   go_ret
   exact ⟨rfl, HK0.out.trans Kw3.out⟩
  | true =>
   rw [hsb] at HS2
   obtain ⟨hUI, hbc, hbr⟩ := HUN.out hsb
   have HU := Lib.hid hUI
   clear hsb HUN hUI
   go_wp2_with fail
   refine (HS2.out _ (HK0.out.trans Kw2.out)).mono ?_
   rintro e w3 ⟨rfl, hk3⟩
   have Kw3 := Lib.hid (Kw2.out.trans hk3)
   clear hk3 q0 q1 l1 HS2 Kw2
   have q2 : w3.cell? ⟨bt + 1 + 1, 0, none⟩ = some (.string (bs x)) := (HB3.out.keep Kw3.out (by simp)).cell 0
   have l2 : bt + 1 + 1 < w3.heap.size := (HB3.out.keep Kw3.out (by simp)).lt
   have q3 : w3.cell? ⟨bt + 1 + 1 + 1, 0, none⟩ = some (.string (bs y)) := (HB4.out.keep Kw3.out (by simp)).cell 0
   have l3 : bt + 1 + 1 + 1 < w3.heap.size := (HB4.out.keep Kw3.out (by simp)).lt
   by_cases hxl : 40 < x.length
   ·have hx40 : (40 : Int) < (x.length : Int) := by omega
    clear hxl
    go_wp2
    go_ret
    exact ⟨rfl, HK0.out.trans Kw3.out⟩
   ·have hx40 : ¬ (40 : Int) < (x.length : Int) := by omega
    by_cases hyl : 40 < y.length
    ·have hy40 : (40 : Int) < (y.length : Int) := by omega
     clear hxl hyl
     go_wp2
     go_ret
     exact ⟨rfl, HK0.out.trans Kw3.out⟩
    ·have hy40 : ¬ (40 : Int) < (y.length : Int) := by omega
     clear hxl hyl
     go_wp2_with fail
     refine (HDN.out _ (HK0.out.trans Kw3.out)).mono ?_
     rintro e w4 ⟨rfl, hk4⟩
     have Kw4 := Lib.hid (Kw3.out.trans hk4)
     clear hk4 q2 l2 q3 l3 hx40 hy40 HDN Kw3
     obtain ⟨fj, hfj⟩ : ∃ f, (oneJ (jJo x y) [a, b]).getD eX = f := ⟨_, rfl⟩
     obtain ⟨bj, hbj⟩ : ∃ f, (oneJ (jJo x y) [a, b]).isSome = f := ⟨_, rfl⟩
     obtain ⟨fg, hfg⟩ : ∃ f, (oneJ (jGr x y) [a]).getD eX = f := ⟨_, rfl⟩
     obtain ⟨bg, hbg⟩ : ∃ f, (oneJ (jGr x y) [a]).isSome = f := ⟨_, rfl⟩
     have HJO : Hid (∀ W n Ac, W.heap.size = n → Keeps [] w W → Rd W [] 1 Ac 2 (strs [x, y]) → Calls Tryz.prog 7 #[.agg #[.int .i64 0, .int .i64 7, .slice none 0 0, .slice none 0 0, .slice Ac 2 2, .string ⟨#[]⟩, .string ⟨#[]⟩, .int .i64 0, .int .i64 0, .string ⟨#[]⟩, .string ⟨#[]⟩, .int .i64 0, .int .i64 0, .string ⟨#[]⟩, .int .i64 0], .slice (some ⟨n, 0, none⟩) 2 2] (W.alloc (.cells #[.slice A a.cols.length c, .slice B a.rows.length d, .slice A' b.cols.length c', .slice B' b.rows.length d'] 25)) fun e w' => (∃ A1 c1 A2 c2, e = .returned (.tuple #[.agg #[.slice A1 fj.cols.length c1, .slice A2 fj.rows.length c2], .bool bj]) ∧ TabIn w' fj A1 A2 c1 c2) ∧ Keeps [] W w') := Lib.hid fun W n Ac hn q hr => oneXU2 (j := jJo x y) (show (0 : Int) ≤ 7 by decide) (show (7 : Int) < 9 by decide) hfj hbj Ac 2 A B c d A' B' c' d' W n hn (HE.out.quiet q) hr (Nat.le_refl _) (by show 2 ≤ _; omega) (HT.out.quiet q) (HU.out.quiet q) (by omega) (by omega) none 0 none 0 0
     have HGO : Hid (∀ W n Ac, W.heap.size = n → Keeps [] w W → Rd W [] 1 Ac 2 (strs [x, y]) → Calls Tryz.prog 7 #[.agg #[.int .i64 0, .int .i64 8, .slice none 0 0, .slice none 0 0, .slice Ac 2 2, .string ⟨#[115, 117, 109]⟩, .string ⟨#[]⟩, .int .i64 0, .int .i64 0, .string ⟨#[]⟩, .string ⟨#[]⟩, .int .i64 0, .int .i64 0, .string ⟨#[]⟩, .int .i64 0], .slice (some ⟨n, 0, none⟩) 1 1] (W.alloc (.cells #[.slice A a.cols.length c, .slice B a.rows.length d] 25)) fun e w' => (∃ A1 c1 A2 c2, e = .returned (.tuple #[.agg #[.slice A1 fg.cols.length c1, .slice A2 fg.rows.length c2], .bool bg]) ∧ TabIn w' fg A1 A2 c1 c2) ∧ Keeps [] W w') := Lib.hid fun W n Ac hn q hr => oneXU (j := jGr x y) (show (0 : Int) ≤ 8 by decide) (show (8 : Int) < 9 by decide) hfg hbg Ac 2 A B c d W n hn (HE.out.quiet q) hr (Nat.le_refl _) (by show 2 ≤ _; omega) (HT.out.quiet q) (by omega) none 0 none 0 0
     have HJS := Lib.hid (fun (h : bj = true) => one_join (j := jJo x y) rfl (someX hfj hbj h))
     have HGS := Lib.hid (fun (h : bg = true) => group_law (someX hfg hbg h))
     clear hfj hbj hfg hbg HE
     have q0 : w4.cell? ⟨bt, 0, none⟩ = some (.slice A a.cols.length c) := (HB1.out.keep Kw4.out (by simp)).cell 0
     have q1 : w4.cell? ⟨bt, 1, none⟩ = some (.slice B a.rows.length d) := (HB1.out.keep Kw4.out (by simp)).cell 1
     have l0 : bt < w4.heap.size := (HB1.out.keep Kw4.out (by simp)).lt
     have q2 : w4.cell? ⟨bt + 1, 0, none⟩ = some (.slice A' b.cols.length c') := (HB2.out.keep Kw4.out (by simp)).cell 0
     have q3 : w4.cell? ⟨bt + 1, 1, none⟩ = some (.slice B' b.rows.length d') := (HB2.out.keep Kw4.out (by simp)).cell 1
     have l1 : bt + 1 < w4.heap.size := (HB2.out.keep Kw4.out (by simp)).lt
     have q4 : w4.cell? ⟨bt + 1 + 1, 0, none⟩ = some (.string (bs x)) := (HB3.out.keep Kw4.out (by simp)).cell 0
     have l2 : bt + 1 + 1 < w4.heap.size := (HB3.out.keep Kw4.out (by simp)).lt
     have q5 : w4.cell? ⟨bt + 1 + 1 + 1, 0, none⟩ = some (.string (bs y)) := (HB4.out.keep Kw4.out (by simp)).cell 0
     have l3 : bt + 1 + 1 + 1 < w4.heap.size := (HB4.out.keep Kw4.out (by simp)).lt
     go_wp2_with fail
     clear q0 q1 q2 q3 q4 q5 l0 l1 l2 l3
     refine (HJO.out _ _ _ (size_alloc _ _) (HK0.out.trans (Kw4.out.alloc _)) (rd_new w4 9 [_, _] 2 1 rfl)).mono ?_
     rintro e w5 ⟨⟨A1, c1, A2, c2, rfl, hf5⟩, hk5⟩
     have HF5 := Lib.hid hf5
     have Kw5 := Lib.hid ((Kw4.out.alloc (.cells #[.string (bs x), .string (bs y)] 9)).trans hk5)
     clear hf5 hk5 Kw4 HJO
     go_upto_if 52 with (fail)
     obtain ⟨x6, hx6⟩ : ∃ z, w5.alloc (.cells #[.slice A1 fj.cols.length c1, .slice A2 fj.rows.length c2] 25) = z := ⟨_, rfl⟩
     have Kx6 : Hid (Keeps [] x0 x6) := Lib.hid (by rw [← hx6]; exact Kw5.out.alloc _)
     have HBF : Hid (Blk x6 w5.heap.size 25 #[.slice A1 fj.cols.length c1, .slice A2 fj.rows.length c2]) := Lib.hid (by rw [← hx6]; exact Blk.new _ _ _)
     rw [hx6]
     obtain ⟨g9, hg9⟩ : ∃ z, w5.heap.size = z := ⟨_, rfl⟩
     rw [hg9] at HBF ⊢
     clear hx6 hg9 Kw5 HF5
     go_cut [] from 11 to 120 (fun wx => Hid (Keeps [] x0 wx))
     case first =>
      cases bj with
      | false =>
       go_wp2
       go_meet
       exact Kx6
      | true =>
       obtain ⟨hra, hrb, x', y', k, m, hxy, hk, hm, _, _, _, _, hfj⟩ := HJS.out rfl
       have hxy' : [x, y] = [x', y'] := hxy
       injection hxy' with e1 e2
       injection e2 with e2 _
       subst e1 e2
       clear hxy HJS HGS HGO
       have HI1 : Hid (∀ W, Keeps [] x0 W → Calls Tryz.prog 8 #[.slice A a.cols.length c, .func (.func 9) #[] #[.pointer (some ⟨bt + 1 + 1, 0, none⟩)]] W fun e w' => e = .returned (.int .i64 (k : Int)) ∧ Keeps [] W w') := Lib.hid fun W q => by
        have h := ixNj1_any a.cols x A c (bt + 1 + 1) W (HT.out.cols.keep (HK0.out.trans q)) (by omega) ((HB3.out.keep q (by simp)).cell 0)
        rw [hk] at h
        exact h
       have HI2 : Hid (∀ W, Keeps [] x0 W → Calls Tryz.prog 8 #[.slice A' b.cols.length c', .func (.func 10) #[] #[.pointer (some ⟨bt + 1 + 1 + 1, 0, none⟩)]] W fun e w' => e = .returned (.int .i64 (m : Int)) ∧ Keeps [] W w') := Lib.hid fun W q => by
        have h := ixNj2_any b.cols y A' c' (bt + 1 + 1 + 1) W (HU.out.cols.keep (HK0.out.trans q)) (by omega) ((HB4.out.keep q (by simp)).cell 0)
        rw [hm] at h
        exact h
       have hkl : k < a.cols.length := by obtain ⟨h, _⟩ := colIx_some.1 hk; exact h
       have hml : m < b.cols.length := by obtain ⟨h, _⟩ := colIx_some.1 hm; exact h
       have HFL : Hid (fj.rows.length = (pairsJ k m a.rows b.rows).length ∧ fj.cols.length + 1 = a.cols.length + b.cols.length) := Lib.hid (by
        rw [hfj]
        refine ⟨rfl, ?_⟩
        simp only [List.length_append, List.length_take, List.length_drop]
        omega)
       have HRA := Lib.hid (row_len hra)
       have HRB := Lib.hid (row_len hrb)
       have HKM := Lib.hid (And.intro hkl hml)
       clear hra hrb hk hm hfj hkl hml
       have q0 : x6.cell? ⟨bt, 0, none⟩ = some (.slice A a.cols.length c) := (HB1.out.keep Kx6.out (by simp)).cell 0
       have l0 : bt < x6.heap.size := (HB1.out.keep Kx6.out (by simp)).lt
       go_wp2_with fail
       clear q0 l0
       refine (HI1.out _ Kx6.out).mono ?_
       rintro e w7 ⟨rfl, hk7⟩
       have Kw7 := Lib.hid (Kx6.out.trans hk7)
       have HBF7 := Lib.hid (HBF.out.keep hk7 (by simp))
       clear hk7 Kx6 HBF HI1
       have q2 : w7.cell? ⟨bt + 1, 0, none⟩ = some (.slice A' b.cols.length c') := (HB2.out.keep Kw7.out (by simp)).cell 0
       have l1 : bt + 1 < w7.heap.size := (HB2.out.keep Kw7.out (by simp)).lt
       go_wp2_with fail
       clear q2 l1
       refine (HI2.out _ Kw7.out).mono ?_
       rintro e w8 ⟨rfl, hk8⟩
       have Kw8 := Lib.hid (Kw7.out.trans hk8)
       have HBF8 := Lib.hid (HBF7.out.keep hk8 (by simp))
       clear hk8 Kw7 HBF7 HI2
       have hk0 : (0 : Int) ≤ (k : Int) := by omega
       have hm0 : (0 : Int) ≤ (m : Int) := by omega
       go_wp2_with fail
       go_loopw [13, 14] (fun u i wx => ∃ n : Nat, n ≤ a.rows.length ∧ i = .int .i64 n ∧ u = .int .i64 ((pairsJ k m (a.rows.take n) b.rows).length : Nat) ∧ Hid (Keeps [] w8 wx)) (fun _ i _ => a.rows.length - (intOf i).toNat)
       case atStart => exact ⟨0, Nat.zero_le _, rfl, by rw [List.take_zero]; rfl, Lib.hid (Keeps.refl _ _)⟩
       case round =>
        obtain ⟨n, hn, rfl, rfl, HK⟩ := hrel
        obtain ⟨v8, rfl⟩ : ∃ z : World, z = wr := ⟨_, rfl⟩
        have Kv8 := Lib.hid (Kw8.out.trans HK.out)
        have q1 : v8.cell? ⟨bt, 1, none⟩ = some (.slice B a.rows.length d) := (HB1.out.keep Kv8.out (by simp)).cell 1
        have l0 : bt < v8.heap.size := (HB1.out.keep Kv8.out (by simp)).lt
        by_cases hlt : n < a.rows.length
        ·have hlti : (n : Int) < (a.rows.length : Int) := by omega
         have HPS := Lib.hid (pairs_succ k m a.rows b.rows n hlt)
         obtain ⟨us, hul, hur, hui⟩ := HT.out.rows
         have hux : n < us.length := by omega
         have hrw := hui n hux hlt
         obtain ⟨b7, o7, hBe, _, hb7, hcs⟩ := hur.open' (by omega) (by omega)
         have d7 := hcs (n * 1) us[n] (by rw [Nat.mul_one]; exact List.getElem?_eq_getElem hux)
         rw [Nat.mul_one] at d7
         have hrr := HRA.out _ (List.getElem_mem hlt)
         have hPl : (pairsJ k m (a.rows.take n) b.rows).length ≤ 4225 := by
          have h1 := pairsJ_len k m (a.rows.take n) b.rows
          have h3 : (a.rows.take n).length * b.rows.length ≤ 65 * 65 := Nat.mul_le_mul (by rw [List.length_take]; omega) hbr
          omega
         generalize a.rows[n] = xr at *
         obtain ⟨Ax, cx, hu, hcx, hxd⟩ := hrw
         rw [hu] at d7
         have hkm := HKM.out
         obtain ⟨bX, oX, rfl, _, hbX, hxc⟩ := hxd.open' (by omega) (by omega)
         have hkx : k < xr.length := by omega
         obtain ⟨z0, z1, z2⟩ := vsCells_at xr k hkx
         have f0 := hxc _ _ z0
         have f1 := hxc _ _ z1
         have f2 := hxc _ _ z2
         rw [← Nat.add_assoc] at f1 f2
         have HFX := Lib.hid (And.intro f0 (And.intro f1 f2))
         have HD7 := Lib.hid (And.intro d7 (And.intro hb7 hbX))
         have HBE := Lib.hid hBe
         have HXL := Lib.hid hkx
         have HGX : Hid (xr.getD k zV = xr[k]) := Lib.hid (by rw [List.getD_eq_getElem?_getD, List.getElem?_eq_getElem hkx]; rfl)
         generalize xr[k] = vx at *
         obtain ⟨vxk, vxn, vxw⟩ := vx
         clear d7 hcs hul hur hui hu hxd z0 z1 z2 f0 f1 f2 hxc hrr hkx hkm hb7 hbX hBe
         obtain ⟨P, hPe⟩ : ∃ P, (pairsJ k m (a.rows.take n) b.rows).length = P := ⟨_, rfl⟩
         have HPP := Lib.hid hPe
         rw [hPe] at hPl ⊢
         clear hPe
         go_wp2_with fail
         clear q1 l0
         go_loopw [13, 15] (fun u i wx => ∃ n2 : Nat, n2 ≤ b.rows.length ∧ i = .int .i64 n2 ∧ u = .int .i64 ((P + (pairsOf k m xr (b.rows.take n2)).length : Nat) : Int) ∧ Hid (Keeps [] w8 wx)) (fun _ i _ => b.rows.length - (intOf i).toNat)
         case atStart => exact ⟨0, Nat.zero_le _, rfl, by rw [List.take_zero]; rfl, HK⟩
         case round =>
          clear HK Kv8
          obtain ⟨n2, hn2, rfl, rfl, HK2⟩ := hrel
          obtain ⟨v9, rfl⟩ : ∃ z : World, z = wr := ⟨_, rfl⟩
          have Kv9 := Lib.hid (Kw8.out.trans HK2.out)
          have Kw9 := Lib.hid (HK0.out.trans Kv9.out)
          have q3 : v9.cell? ⟨bt + 1, 1, none⟩ = some (.slice B' b.rows.length d') := (HB2.out.keep Kv9.out (by simp)).cell 1
          have l1 : bt + 1 < v9.heap.size := (HB2.out.keep Kv9.out (by simp)).lt
          have hQl := pairsOf_len k m xr (b.rows.take n2)
          rw [List.length_take] at hQl
          by_cases hlt2 : n2 < b.rows.length
          ·have hlt2i : (n2 : Int) < (b.rows.length : Int) := by omega
           have HPO := Lib.hid (pairsOf_succ k m xr b.rows n2 hlt2)
           obtain ⟨us, hul, hur, hui⟩ := HU.out.rows
           have hux : n2 < us.length := by omega
           have hrw := hui n2 hux hlt2
           obtain ⟨b8, o8, rfl, _, hb8, hcs⟩ := hur.open' (by omega) (by omega)
           have d7 := hcs (n2 * 1) us[n2] (by rw [Nat.mul_one]; exact List.getElem?_eq_getElem hux)
           rw [Nat.mul_one] at d7
           have hrr := HRB.out _ (List.getElem_mem hlt2)
           generalize b.rows[n2] = zr at *
           obtain ⟨Az, cz, hu, hcz, hzd⟩ := hrw
           rw [hu] at d7
           have hkm := HKM.out
           obtain ⟨bZ, oZ, rfl, _, hbZ, hzc⟩ := hzd.open' (by omega) (by omega)
           have hmz : m < zr.length := by omega
           obtain ⟨z0, z1, z2⟩ := vsCells_at zr m hmz
           have g0 := Kw9.out.cell_of (hzc _ _ z0) (by simp)
           have g1 := Kw9.out.cell_of (hzc _ _ z1) (by simp)
           have g2 := Kw9.out.cell_of (hzc _ _ z2) (by simp)
           rw [← Nat.add_assoc] at g1 g2
           have hgz : zr.getD m zV = zr[m] := by rw [List.getD_eq_getElem?_getD, List.getElem?_eq_getElem hmz]; rfl
           rw [hgz, HGX.out] at HPO
           generalize zr[m] = vz at *
           obtain ⟨vzk, vzn, vzw⟩ := vz
           have f0 := Kw9.out.cell_of HFX.out.1 (by simp)
           have f1 := Kw9.out.cell_of HFX.out.2.1 (by simp)
           have f2 := Kw9.out.cell_of HFX.out.2.2 (by simp)
           have d8 := Kw9.out.cell_of d7 (by simp)
           have e7 := Kw9.out.cell_of HD7.out.1 (by simp)
           have hbX' := Nat.lt_of_lt_of_le HD7.out.2.2 Kw9.out.size
           have hb7' := Nat.lt_of_lt_of_le HD7.out.2.1 Kw9.out.size
           have hbZ' := Nat.lt_of_lt_of_le hbZ Kw9.out.size
           have hb8' := Nat.lt_of_lt_of_le hb8 Kw9.out.size
           have q1 : v9.cell? ⟨bt, 1, none⟩ = some (.slice (some ⟨b7, o7, none⟩) a.rows.length d) := by rw [← HBE.out]; exact (HB1.out.keep Kv9.out (by simp)).cell 1
           have l0 : bt < v9.heap.size := (HB1.out.keep Kv9.out (by simp)).lt
           have hi2 : (k : Int) < (xr.length : Int) := by have := HXL.out; omega
           have hi4 : (m : Int) < (zr.length : Int) := by omega
           have hn0 : (0 : Int) ≤ (n : Int) := by omega
           have hn20 : (0 : Int) ≤ (n2 : Int) := by omega
           clear d7 hcs hul hur hui hu hzd z0 z1 z2 hzc hgz hrr hmz hkm
           by_cases he : (⟨vxk, vxn, vxw⟩ : Vl) = ⟨vzk, vzn, vzw⟩
           ·have hq : ∀ W, (binOp .eql 32 (.agg #[.int .i64 vxk, .int .i64 vxn, .string (bs vxw)]) (.agg #[.int .i64 vzk, .int .i64 vzn, .string (bs vzw)])).run Tryz.prog W = .ok (.bool true) W := fun W => by rw [vEql, decide_eq_true he]
            have hLL : (pairsOf k m xr (b.rows.take (n2 + 1))).length = (pairsOf k m xr (b.rows.take n2)).length + 1 := by rw [HPO.out, if_pos he, List.length_append, List.length_singleton]
            have HLL := Lib.hid hLL
            clear he hLL HPO
            generalize (pairsOf k m xr (b.rows.take n2)).length = Q at *
            go_upto_region 16 with (fail)
            refine wp_region_keeps (by kernel_rfl) (by kernel_rfl) ?_
            repeat (go_big_quiet_step (fail))
            refine wpQuiet_nil ?_
            intro v10 hk10
            have HK10 := Lib.hid (HK2.out.trans hk10)
            clear hk10
            go_wp2
            go_roundw
            case rel => exact ⟨n2 + 1, by omega, by go_num, by rw [HLL.out]; go_num, HK10⟩
            case measure => simp [intOf]; omega
           ·have hq : ∀ W, (binOp .eql 32 (.agg #[.int .i64 vxk, .int .i64 vxn, .string (bs vxw)]) (.agg #[.int .i64 vzk, .int .i64 vzn, .string (bs vzw)])).run Tryz.prog W = .ok (.bool false) W := fun W => by rw [vEql, decide_eq_false he]
            have hLL : (pairsOf k m xr (b.rows.take (n2 + 1))).length = (pairsOf k m xr (b.rows.take n2)).length := by rw [HPO.out, if_neg he, List.append_nil]
            have HLL := Lib.hid hLL
            clear he hLL HPO
            generalize (pairsOf k m xr (b.rows.take n2)).length = Q at *
            go_upto_region 16 with (fail)
            refine wp_region_keeps (by kernel_rfl) (by kernel_rfl) ?_
            repeat (go_big_quiet_step (fail))
            refine wpQuiet_nil ?_
            intro v10 hk10
            have HK10 := Lib.hid (HK2.out.trans hk10)
            clear hk10
            go_wp2
            go_roundw
            case rel => exact ⟨n2 + 1, by omega, by go_num, by rw [HLL.out], HK10⟩
            case measure => simp [intOf]; omega
          ·obtain rfl : n2 = b.rows.length := by omega
           have HLL : Hid ((pairsJ k m (a.rows.take (n + 1)) b.rows).length = P + (pairsOf k m xr (b.rows.take b.rows.length)).length) := Lib.hid (by rw [HPS.out, List.length_append, List.take_length, HPP.out])
           generalize (pairsOf k m xr (b.rows.take b.rows.length)).length = Q at *
           go_wp2
           go_roundw
           case rel => exact ⟨n + 1, by omega, by go_num, by rw [HLL.out], HK2⟩
           case measure => simp [intOf]; omega
        ·obtain rfl : n = a.rows.length := by omega
         rw [List.take_length]
         have t0 := (HBF8.out.keep HK.out (by simp)).cell 0
         have t1 := (HBF8.out.keep HK.out (by simp)).cell 1
         have lt := (HBF8.out.keep HK.out (by simp)).lt
         have q0 : v8.cell? ⟨bt, 0, none⟩ = some (.slice A a.cols.length c) := (HB1.out.keep Kv8.out (by simp)).cell 0
         have q2 : v8.cell? ⟨bt + 1, 0, none⟩ = some (.slice A' b.cols.length c') := (HB2.out.keep Kv8.out (by simp)).cell 0
         have l1 : bt + 1 < v8.heap.size := (HB2.out.keep Kv8.out (by simp)).lt
         have hf1 := HFL.out.1
         have hf2 : (fj.cols.length : Int) = (a.cols.length : Int) + (b.cols.length : Int) - 1 := by have := HFL.out.2; omega
         rw [← hf1]
         clear hf1
         have Kv9 := Kv8
         clear HK Kw8 Kv8 HBF8 HFL HRA HRB HKM
         go_upto_region 18 with (fail)
         go_wp2
         go_meet
         exact Kv9
     case rest =>
      obtain ⟨y0, rfl⟩ : ∃ z : World, z = wc := ⟨_, rfl⟩
      have Ky0 : Hid (Keeps [] x0 y0) := hcut
      clear hcut Kx6 HBF HJS HU HB2
      have q0 : y0.cell? ⟨bt, 0, none⟩ = some (.slice A a.cols.length c) := (HB1.out.keep Ky0.out (by simp)).cell 0
      have q1 : y0.cell? ⟨bt, 1, none⟩ = some (.slice B a.rows.length d) := (HB1.out.keep Ky0.out (by simp)).cell 1
      have l0 : bt < y0.heap.size := (HB1.out.keep Ky0.out (by simp)).lt
      have q4 : y0.cell? ⟨bt + 1 + 1, 0, none⟩ = some (.string (bs x)) := (HB3.out.keep Ky0.out (by simp)).cell 0
      have l2 : bt + 1 + 1 < y0.heap.size := (HB3.out.keep Ky0.out (by simp)).lt
      have q5 : y0.cell? ⟨bt + 1 + 1 + 1, 0, none⟩ = some (.string (bs y)) := (HB4.out.keep Ky0.out (by simp)).cell 0
      have l3 : bt + 1 + 1 + 1 < y0.heap.size := (HB4.out.keep Ky0.out (by simp)).lt
      go_wp2_with fail
      clear q0 q1 q4 q5 l0 l2 l3
      refine (HGO.out _ _ _ (size_alloc _ _) (HK0.out.trans (Ky0.out.alloc _)) (rd_new y0 9 [_, _] 2 1 rfl)).mono ?_
      rintro e y1 ⟨⟨A3, c3, A4, c4, rfl, hf1⟩, hk1⟩
      have Ky1 := Lib.hid ((Ky0.out.alloc (.cells #[.string (bs x), .string (bs y)] 9)).trans hk1)
      have HFG := Lib.hid hf1
      clear hf1 hk1 Ky0 HGO
      cases bg with
      | false =>
       go_wp2
       go_ret
       exact ⟨rfl, (HK0.out.trans Ky1.out).alloc _⟩
      | true =>
       obtain ⟨hra, m, hm, hml, hnum, hgl, hgr, hsum, hrise⟩ := HGS.out rfl
       have HI3 : Hid (∀ W, Keeps [] x0 W → Calls Tryz.prog 8 #[.slice A a.cols.length c, .func (.func 11) #[] #[.pointer (some ⟨bt + 1 + 1 + 1, 0, none⟩)]] W fun e w' => e = .returned (.int .i64 (m : Int)) ∧ Keeps [] W w') := Lib.hid fun W q => by
        have h := ixNj3_any a.cols y A c (bt + 1 + 1 + 1) W (HT.out.cols.keep (HK0.out.trans q)) (by omega) ((HB4.out.keep q (by simp)).cell 0)
        rw [hm] at h
        exact h
       have HNUM := Lib.hid hnum
       have HGR := Lib.hid hgr
       have HRISE := Lib.hid hrise
       have HSUM : Hid (sumM 1 fg.rows = sumM m a.rows) := Lib.hid hsum
       have HBDA := Lib.hid (fun n => sumM_bd m (a.rows.take n) fun r hr => (hnum r (List.mem_of_mem_take hr)).2)
       have HBDG := Lib.hid (fun n => sumM_bd 1 (fg.rows.take n) fun r hr => (hgr r (List.mem_of_mem_take hr)).2)
       clear HGS hra hm hml hnum hgr hsum hrise
       obtain ⟨y2, hy2⟩ : ∃ z, y1.alloc (.cells #[.slice A3 fg.cols.length c3, .slice A4 fg.rows.length c4] 25) = z := ⟨_, rfl⟩
       have Ky2 : Hid (Keeps [] x0 y2) := Lib.hid (by rw [← hy2]; exact Ky1.out.alloc _)
       have HBG : Hid (Blk y2 y1.heap.size 25 #[.slice A3 fg.cols.length c3, .slice A4 fg.rows.length c4]) := Lib.hid (by rw [← hy2]; exact Blk.new _ _ _)
       have HFG2 : Hid (TabIn y2 fg A3 A4 c3 c4) := Lib.hid (HFG.out.quiet (by rw [← hy2]; exact (Keeps.refl _ _).alloc _))
       have HY2 := Lib.hid hy2
       clear hy2
       go_upto_region 23 with (fail)
       rw [HY2.out]
       obtain ⟨g9, hg9⟩ : ∃ z, y1.heap.size = z := ⟨_, rfl⟩
       rw [hg9] at HBG ⊢
       clear HY2 hg9 Ky1 HFG
       have q0 : y2.cell? ⟨bt, 0, none⟩ = some (.slice A a.cols.length c) := (HB1.out.keep Ky2.out (by simp)).cell 0
       have l0 : bt < y2.heap.size := (HB1.out.keep Ky2.out (by simp)).lt
       go_wp2_with fail
       clear q0 l0
       refine (HI3.out _ Ky2.out).mono ?_
       rintro e y3 ⟨rfl, hk3⟩
       have Ky3 := Lib.hid (Ky2.out.trans hk3)
       have HBG3 := Lib.hid (HBG.out.keep hk3 (by simp))
       have HFG3 := Lib.hid (HFG2.out.quiet hk3)
       clear hk3 Ky2 HBG HFG2 HI3 HB3 HB4
       go_wp2_with fail
       go_loopw [18, 19] (fun u i wx => ∃ n : Nat, n ≤ a.rows.length ∧ i = .int .i64 n ∧ u = .int .i64 (sumM m (a.rows.take n)) ∧ Hid (Keeps [] y3 wx)) (fun _ i _ => a.rows.length - (intOf i).toNat)
       case atStart => exact ⟨0, Nat.zero_le _, rfl, rfl, Lib.hid (Keeps.refl _ _)⟩
       case round =>
        obtain ⟨n, hn, rfl, rfl, HK⟩ := hrel
        obtain ⟨v8, rfl⟩ : ∃ z : World, z = wr := ⟨_, rfl⟩
        have Kv8 := Lib.hid (Ky3.out.trans HK.out)
        have Kw8 := Lib.hid (HK0.out.trans Kv8.out)
        by_cases hlt : n < a.rows.length
        ·have hlti : (n : Int) < (a.rows.length : Int) := by omega
         have HPS := Lib.hid (sumM_succ m a.rows n hlt)
         have hbd := HBDA.out n
         rw [List.length_take] at hbd
         obtain ⟨us, hul, hur, hui⟩ := HT.out.rows
         have hux : n < us.length := by omega
         have hrw := hui n hux hlt
         obtain ⟨b7, o7, rfl, _, hb7, hcs⟩ := hur.open' (by omega) (by omega)
         have q1 : v8.cell? ⟨bt, 1, none⟩ = some (.slice (some ⟨b7, o7, none⟩) a.rows.length d) := (HB1.out.keep Kv8.out (by simp)).cell 1
         have l0 : bt < v8.heap.size := (HB1.out.keep Kv8.out (by simp)).lt
         have d7 := hcs (n * 1) us[n] (by rw [Nat.mul_one]; exact List.getElem?_eq_getElem hux)
         rw [Nat.mul_one] at d7
         obtain ⟨hmx, hn1, hn2⟩ := HNUM.out _ (List.getElem_mem hlt)
         generalize a.rows[n] = xr at *
         obtain ⟨Ax, cx, hu, hcx, hxd⟩ := hrw
         rw [hu] at d7
         obtain ⟨bX, oX, rfl, _, hbX, hxc⟩ := hxd.open' (by omega) (by omega)
         obtain ⟨_, z1, _⟩ := vsCells_at xr m hmx
         have f1 := Kw8.out.cell_of (hxc _ _ z1) (by simp)
         rw [← Nat.add_assoc] at f1
         have hgx : xr.getD m zV = xr[m] := by rw [List.getD_eq_getElem?_getD, List.getElem?_eq_getElem hmx]; rfl
         rw [hgx] at HPS hn1 hn2
         generalize xr[m] = vx at *
         obtain ⟨vxk, vxn, vxw⟩ := vx
         simp only at HPS hn1 hn2 f1
         have d8 := Kw8.out.cell_of d7 (by simp)
         have hbX' := Nat.lt_of_lt_of_le hbX Kw8.out.size
         have hb7' := Nat.lt_of_lt_of_le hb7 Kw8.out.size
         have hi2 : (m : Int) < (xr.length : Int) := by omega
         have hm0 : (0 : Int) ≤ (m : Int) := by omega
         have hn0 : (0 : Int) ≤ (n : Int) := by omega
         obtain ⟨S, hS⟩ : ∃ S, sumM m (a.rows.take n) = S := ⟨_, rfl⟩
         rw [hS] at HPS hbd ⊢
         have hw : IntKind.i64.wrap (S + vxn) = S + vxn := by simp [IntKind.wrap, IntKind.bits, IntKind.signed]; omega
         clear d7 hcs hul hur hui hu hxd z1 hxc hgx hS hbd hn1 hn2
         go_wp2
         go_roundw
         case rel => exact ⟨n + 1, by omega, by go_num, by rw [HPS.out], HK⟩
         case measure => simp [intOf]; omega
        ·obtain rfl : n = a.rows.length := by omega
         rw [List.take_length]
         have HBG8 := Lib.hid (HBG3.out.keep HK.out (by simp))
         have HFG8 := Lib.hid (HFG3.out.quiet HK.out)
         have q1 : v8.cell? ⟨bt, 1, none⟩ = some (.slice B a.rows.length d) := (HB1.out.keep Kv8.out (by simp)).cell 1
         have l0 : bt < v8.heap.size := (HB1.out.keep Kv8.out (by simp)).lt
         have hbdA := HBDA.out a.rows.length
         rw [List.take_length] at hbdA
         have HSM := HSUM
         obtain ⟨T, hT⟩ : ∃ T, sumM m a.rows = T := ⟨_, rfl⟩
         rw [hT] at hbdA HSM ⊢
         have HBT := Lib.hid hbdA
         clear hT HK Ky3 HBG3 HFG3 HNUM HBDA HSUM hbdA HB1
         go_wp2_with fail
         clear q1 l0
         go_loopw [18, 20] (fun u i wx => ∃ n : Nat, n ≤ fg.rows.length ∧ i = .int .i64 n ∧ u = .int .i64 (T - sumM 1 (fg.rows.take n)) ∧ Hid (Keeps [] v8 wx)) (fun _ i _ => fg.rows.length - (intOf i).toNat)
         case atStart => exact ⟨0, Nat.zero_le _, rfl, by rw [List.take_zero]; simp [sumM], Lib.hid (Keeps.refl _ _)⟩
         case round =>
          obtain ⟨n, hn, rfl, rfl, HK⟩ := hrel
          obtain ⟨u8, rfl⟩ : ∃ z : World, z = wr := ⟨_, rfl⟩
          have HFU := Lib.hid (HFG8.out.quiet HK.out)
          by_cases hlt : n < fg.rows.length
          ·have hlti : (n : Int) < (fg.rows.length : Int) := by omega
           have HPS := Lib.hid (sumM_succ 1 fg.rows n hlt)
           have hbd := HBDG.out n
           rw [List.length_take] at hbd
           have hbt := HBT.out
           obtain ⟨us, hul, hur, hui⟩ := HFU.out.rows
           have hux : n < us.length := by omega
           have hrw := hui n hux hlt
           obtain ⟨b7, o7, rfl, _, hb7, hcs⟩ := hur.open' (by omega) (by omega)
           have q1 : u8.cell? ⟨g9, 1, none⟩ = some (.slice (some ⟨b7, o7, none⟩) fg.rows.length c4) := (HBG8.out.keep HK.out (by simp)).cell 1
           have l0 : g9 < u8.heap.size := (HBG8.out.keep HK.out (by simp)).lt
           have d7 := hcs (n * 1) us[n] (by rw [Nat.mul_one]; exact List.getElem?_eq_getElem hux)
           rw [Nat.mul_one] at d7
           obtain ⟨hr2, hn1, hn2⟩ := HGR.out _ (List.getElem_mem hlt)
           have HRP : Hid (∀ p (h : n = p + 1), lessB ((fg.rows[p]'(by omega)).getD 0 zV) (fg.rows[n].getD 0 zV) = true) := Lib.hid fun p h => by subst h; exact HRISE.out p hlt
           have HUI := Lib.hid (fun p (h : p < us.length) (h' : p < fg.rows.length) => hui p h h')
           have HCS := Lib.hid hcs
           generalize hrE : fg.rows[n] = xr at *
           obtain ⟨Ax, cx, hu, hcx, hxd⟩ := hrw
           rw [hu] at d7
           obtain ⟨bX, oX, rfl, _, hbX, hxc⟩ := hxd.open' (by omega) (by omega)
           rw [hr2] at d7
           obtain ⟨k1, k2, rfl⟩ : ∃ k1 k2, xr = [k1, k2] := by
            match xr, hr2 with
            | [k1, k2], _ => exact ⟨k1, k2, rfl⟩
           obtain ⟨ak, an, aw⟩ := k1
           obtain ⟨vk, vn, vw⟩ := k2
           have f1 : u8.cell? ⟨bX, oX + 3 + 1, none⟩ = some (.int .i64 vn) := hxc 4 _ rfl
           have g0 : u8.cell? ⟨bX, oX, none⟩ = some (.int .i64 ak) := hxc 0 _ rfl
           have g1 : u8.cell? ⟨bX, oX + 1, none⟩ = some (.int .i64 an) := hxc 1 _ rfl
           have g2 : u8.cell? ⟨bX, oX + 2, none⟩ = some (.string (bs aw)) := hxc 2 _ rfl
           have HPS2 : Hid (sumM 1 (fg.rows.take (n + 1)) = sumM 1 (fg.rows.take n) + vn) := HPS
           have hn1' : -1000000000 ≤ vn := hn1
           have hn2' : vn ≤ 1000000000 := hn2
           have HRP2 : Hid (∀ p (h : n = p + 1), lessB ((fg.rows[p]'(by omega)).getD 0 zV) ⟨ak, an, aw⟩ = true) := HRP
           obtain ⟨S, hS⟩ : ∃ S, sumM 1 (fg.rows.take n) = S := ⟨_, rfl⟩
           rw [hS] at HPS2 hbd ⊢
           have hw : IntKind.i64.wrap (T - S - vn) = T - S - vn := by simp [IntKind.wrap, IntKind.bits, IntKind.signed]; omega
           have HREL : Hid ((.int .i64 (T - S - vn) : Value) = .int .i64 (T - sumM 1 (fg.rows.take (n + 1)))) := Lib.hid (by rw [HPS2.out, Int.sub_sub])
           have hn0 : (0 : Int) ≤ (n : Int) := by omega
           clear HPS HRP HPS2 hn1 hn2 hn1' hn2' hS hbd hbt hrE hr2 hu hxd hxc hcs hur hui
           rcases Nat.eq_zero_or_pos n with h0 | hpos
           ·have hng : decide ((0 : Int) < (n : Int)) = false := decide_eq_false (by omega)
            have hngf : (0 < n) = False := eq_false (by omega)
            clear h0 HRP2 HUI HCS
            go_upto_region 33 with (fail)
            refine wp_region_keeps (by kernel_rfl) (by kernel_rfl) ?_
            repeat (go_big_quiet_step (fail))
            refine wpQuiet_nil ?_
            intro v10 hk10
            have HK10 := Lib.hid (HK.out.trans hk10)
            clear hk10
            go_wp2
            go_roundw
            case rel => exact ⟨n + 1, by omega, by go_num, by rw [← HREL.out], HK10⟩
            case measure => simp [intOf]; omega
           ·obtain ⟨p, hp⟩ : ∃ p, n = p + 1 := ⟨n - 1, by omega⟩
            have hng : decide ((0 : Int) < (n : Int)) = true := decide_eq_true (by omega)
            have hpl : p < us.length := by omega
            have hpf : p < fg.rows.length := by omega
            have hless := HRP2.out p hp
            obtain ⟨Ay, cy, hv, hcy, hyd⟩ := HUI.out p hpl hpf
            have e7 := HCS.out (p * 1) us[p] (by rw [Nat.mul_one]; exact List.getElem?_eq_getElem hpl)
            rw [Nat.mul_one, hv] at e7
            obtain ⟨hr2, _, _⟩ := HGR.out _ (List.getElem_mem hpf)
            generalize fg.rows[p] = yr at *
            obtain ⟨bY, oY, rfl, _, hbY, hyc⟩ := hyd.open' (by omega) (by omega)
            rw [hr2] at e7
            obtain ⟨k1, k2, rfl⟩ : ∃ k1 k2, yr = [k1, k2] := by
             match yr, hr2 with
             | [k1, k2], _ => exact ⟨k1, k2, rfl⟩
            obtain ⟨ck, cn, cw⟩ := k1
            have i0 : u8.cell? ⟨bY, oY, none⟩ = some (.int .i64 ck) := hyc 0 _ rfl
            have i1 : u8.cell? ⟨bY, oY + 1, none⟩ = some (.int .i64 cn) := hyc 1 _ rfl
            have i2 : u8.cell? ⟨bY, oY + 2, none⟩ = some (.string (bs cw)) := hyc 2 _ rfl
            have hwp : IntKind.i64.wrap ((n : Int) - 1) = (p : Int) := by simp [IntKind.wrap, IntKind.bits, IntKind.signed]; omega
            have hp0 : (0 : Int) ≤ (p : Int) := by omega
            have hpi : (p : Int) < (fg.rows.length : Int) := by omega
            have HLS : Hid (∀ W, Keeps [] u8 W → Calls Tryz.prog 12 #[.agg #[.int .i64 ck, .int .i64 cn, .string (bs cw)], .agg #[.int .i64 ak, .int .i64 an, .string (bs aw)]] W fun e w' => e = .returned (.bool true) ∧ Keeps [] W w') := Lib.hid fun W _ => by
             have h := less_any ⟨ck, cn, cw⟩ ⟨ak, an, aw⟩ W
             have hl : lessB (⟨ck, cn, cw⟩ : Vl) ⟨ak, an, aw⟩ = true := hless
             rw [hl] at h
             exact h
            clear hless hv hcy hyd hyc hr2 hp HRP2 HUI HCS hpl hpf
            go_upto_region 33 with (fail)
            refine wp_region_keeps (by kernel_rfl) (by kernel_rfl) ?_
            repeat (go_big_quiet_step (first | with_reducible exact KW.of HLS.out _))
            refine wpQuiet_nil ?_
            intro v10 hk10
            have HK10 := Lib.hid (HK.out.trans hk10)
            clear hk10
            go_wp2
            go_roundw
            case rel => exact ⟨n + 1, by omega, by go_num, by rw [← HREL.out], HK10⟩
            case measure => simp [intOf]; omega
          ·obtain rfl : n = fg.rows.length := by omega
           have q1 : u8.cell? ⟨g9, 1, none⟩ = some (.slice A4 fg.rows.length c4) := (HBG8.out.keep HK.out (by simp)).cell 1
           have l0 : g9 < u8.heap.size := (HBG8.out.keep HK.out (by simp)).lt
           rw [List.take_length, HSM.out, Int.sub_self]
           go_wp2
           go_ret
           exact ⟨rfl, Kw8.out.trans HK.out⟩
end Go.Proofs.YtpfkjejknlkkoaaGreatDoor
namespace Go.Proofs.YtpfkjejknlkkoaaGreatDoor
open Go.RowKit Go.ChangeShapes Go.WideShapes
theorem returns_shaped {H : Type} {enc : TypeId × Value → H} {a : Assume} {C : Checked} {os : Os} {f : FuncId} {fn : Func} {s : ChangeSpec} {conds : List PathCond} {apart fresh handsOn again : Bool} {X : World → Array Value → Prop}
  (hX : ∀ (w w' : World) (args : Array Value), w.heap = w'.heap → X w args → X w' args)
  (own : ownKnob C.prog.godebug = none) (started : os.Started) (noInit : C.prog.inits.idxOf? f = none) (hfn : C.prog.funcs[f]? = some fn)
  (witness : ∃ (w : World) (tape : Tape) (i : Input), w.os = os ∧ (w.forCall tape i).Shaped C.prog ∧ i.vars = [] ∧ Input.okWide C.prog (w.forCall tape i) .any w.heap.size f i ∧
   ((s.pre enc C.prog fn conds apart (w.forCall tape i).memory i.args ∧ X (w.forCall tape i).memory i.args) ∧ sizedMet enc C.prog fn (OpenSpec.ofChange s) apart (w.forCall tape i).memory i.args) ∧ a.holds C.prog (lone (Frame.enter C.prog f i.args .normal) [] (w.forCall tape i)))
  (contract : ∀ (W : World) (base : Nat) (args : Array Value) (ds gs : List (DataW H)) (before : List MemPlace),
   (∀ (j : Nat) t v, fn.params[j]? = some t → args[j]? = some v → Value.okWide C.prog W .any base t v) →
   DataW.Whole enc C.prog fn.params.toList s.vars apart W args.toList ds gs before → X W args → W.ShapedOpen C.prog →
   Calls C.prog f args W fun e W' => ∃ v, e = .returned v ∧ s.post enc C.prog fn apart fresh handsOn again W args v W') :
  ReturnsInHanded a C os f .any (fun w args => (s.pre enc C.prog fn conds apart w args ∧ X w args) ∧ sizedMet enc C.prog fn (OpenSpec.ofChange s) apart w args) (s.post enc C.prog fn apart fresh handsOn again) := by
 refine returnsInHanded_of_calls own started noInit witness ?_
 intro w tape i _ hsh _ hok hpre _
 obtain ⟨_, _, _, fn', hfn', _, _, _, _, hval⟩ := hok
 obtain rfl : fn' = fn := Option.some.inj (hfn'.symm.trans hfn)
 obtain ⟨⟨⟨ds, gs, before, hw, _⟩, hx⟩, _⟩ := hpre
 have hw' := DataW.Whole.of_heap (w' := w.forCall tape i) (by rfl) hw
 refine (contract (w.forCall tape i) w.heap.size i.args ds gs before hval hw' (hX _ _ _ (by rfl) hx) hsh).mono fun e W' ⟨v, he, hp⟩ => ?_
 subst he
 exact ChangeSpec.post_blind hp
theorem one_of {P : Program} {W : World} {laid : List (String × DataW Unit)} (nm : String) (d : DataW Unit) (hf : laid.filter (fun x => x.1 == nm) = [(nm, d)]) (h : laidMet P laid W) : laidMet P [(nm, d)] W := hf ▸ h.filter fun x => x.1 == nm
theorem cells_of_strs {H : Type} {enc : TypeId × Value → H} {P : Program} {w : World} {base : Nat} {sp : Nat → Bool} {held : Bool} {fuel : Nat} {t e : TypeId} {n : Nat} {cs : List Value} {zs : List Bs} {p : List MemPlace}
  (ht : P.underlying t = some (.array n e)) (he : P.underlying e = some .string) (hce : P.cellsOf e = 1) (hct : P.cellsOf t = n)
  (h : DataW.trod enc P w base sp held fuel t cs = some (.agg (zs.map fun z => .lit (.string z)), p)) : cs = zs.map fun z => Value.string (bs z) := by
 cases fuel with
 | zero => simp [DataW.trod] at h
 | succ fuel =>
  simp only [DataW.trod, ht, hce, hct, Nat.mul_one] at h
  split at h
  ·rename_i hl
   obtain ⟨xs, hm, hx⟩ := Option.map_eq_some_iff.1 h
   have hxs : xs.map (·.1) = zs.map fun z => (DataW.lit (.string z) : DataW H) := by
    have := congrArg Prod.fst hx
    simpa using this
   have hxl : xs.length = n := by simpa using Lib.mapM_length hm
   have hzl : zs.length = n := by
    have := congrArg List.length hxs
    simp at this
    omega
   apply List.ext_getElem?
   intro i
   by_cases hi : i < n
   ·obtain ⟨b, hb, hf⟩ := Lib.mapM_at hm i i (by simp [hi])
    obtain ⟨s, hc, rfl, _⟩ := DataW.trod_string he hf
    have h1 : cs[i]? = some (.string s) := by
     have := congrArg (·[0]?) hc
     simpa [List.getElem?_take, List.getElem?_drop] using this
    have h2 : (xs.map (·.1))[i]? = some (DataW.lit (.string s.data.toList) : DataW H) := by simp [hb]
    rw [hxs] at h2
    simp only [List.getElem?_map, Option.map_eq_some_iff, DataW.lit.injEq, Lit.string.injEq] at h2
    obtain ⟨z', hz', rfl⟩ := h2
    simp [h1, hz', bs_data]
   ·rw [List.getElem?_eq_none (by omega), List.getElem?_eq_none (by simp; omega)]
  ·cases h
theorem iface_at {P : Program} {W : World} {nm : String} {g : Nat} {t : TypeId} {ms : Array (String × TypeId)} {name : String} {d : DataW Unit} (hg : P.globalNamed nm = some g) (hty : (P.globals[g]?).map (·.type) = some t) (ht : P.underlying t = some (.interface ms))
  (h : laidMet P [(nm, .iface name d)] W) : ∃ u v, W.cell? ⟨g, 0, none⟩ = some (.iface u v) := by
 obtain ⟨ps, ⟨g', t', cs, fuel, p, q, hg', ht', hvar, hd, _, _⟩, _⟩ := h
 obtain rfl := Option.some.inj (hg.symm.trans hg')
 obtain rfl := Option.some.inj (hty.symm.trans ht')
 obtain ⟨_, u, v, hc, _, _⟩ := iface_of_trod ht hd
 refine ⟨u, v, ?_⟩
 rw [World.var?_cell hg hvar 0]
 have : cs = #[.iface u v] := by rw [← hc]
 rw [this]
 rfl
end Go.Proofs.YtpfkjejknlkkoaaGreatDoor
