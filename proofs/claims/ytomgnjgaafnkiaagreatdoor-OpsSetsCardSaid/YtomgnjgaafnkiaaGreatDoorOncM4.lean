/- Columns and values compared as wholes. A region that draws its order, whose operations only read and whose callees keep what was there: walked once, in the order of the text. ops: find, holds, kind, Sizes, arg. -/
import Derived.Test.YtomgnjgaafnkiaaGreatDoorOncM2
import Derived.Test.YtomgnjgaafnkiaaGreatDoorOncM1
import Derived.Test.YtomgnjgaafnkiaaGreatDoorOncM3
namespace Go.Proofs.YtomgnjgaafnkiaaGreatDoor
open Go.RowKit
attribute [local go_sem] bs_size bs_extract bs_append bs_toList
theorem bytes_beq (a b : Bs) : ((bs a).toList == (bs b).toList) = decide (a = b) := by
  rw [bs_toList, bs_toList, Bool.eq_iff_iff, beq_iff_eq, decide_eq_true_iff]
theorem cNeq (a b : Cl) (W : World) : (binOp .neq 39 (.agg #[.string (bs a.name), .int .i64 a.kind]) (.agg #[.string (bs b.name), .int .i64 b.kind])).run Tryz.prog W = .ok (.bool (!decide (a = b))) W := by
  have hd : decide (a = b) = (decide (a.name = b.name) && decide (a.kind = b.kind)) := by
    obtain ⟨n, k⟩ := a
    obtain ⟨n2, k2⟩ := b
    rw [Bool.eq_iff_iff]
    simp
  rw [hd]
  simp [go_sem]
  by_cases h1 : a.name = b.name <;> by_cases h2 : a.kind = b.kind <;> simp [h1, h2, go_sem]
theorem vNeq (a b : Vl) (W : World) : (binOp .neq 32 (.agg #[.int .i64 a.kind, .int .i64 a.num, .string (bs a.word)]) (.agg #[.int .i64 b.kind, .int .i64 b.num, .string (bs b.word)])).run Tryz.prog W = .ok (.bool (!decide (a = b))) W := by
  have hd : decide (a = b) = (decide (a.kind = b.kind) && decide (a.num = b.num) && decide (a.word = b.word)) := by
    obtain ⟨k, n, s⟩ := a
    obtain ⟨k2, n2, s2⟩ := b
    rw [Bool.eq_iff_iff]
    simp [and_assoc]
  rw [hd]
  simp [go_sem]
  by_cases h1 : a.kind = b.kind <;> by_cases h2 : a.num = b.num <;> by_cases h3 : a.word = b.word <;> simp [h1, h2, h3, go_sem]
end Go.Proofs.YtomgnjgaafnkiaaGreatDoor
namespace Go.Proofs.YtomgnjgaafnkiaaGreatDoor
open Go.RowKit
/-- A world in which all that was in w0 is as it was. -/
structure KW (w0 : World) where
  w : World
  k : Keeps [] w0 w
instance (w0 : World) : Inhabited (KW w0) := ⟨⟨w0, Keeps.refl [] w0⟩⟩
theorem wp_region_keeps {P : Program} {id : Nat} {Q : Exit → Act → World → Prop} {a : Act} {w : World} {l : List Oper} (hm : P.follows .mixedOrders = true) (hB : Region.lexB .any l.toArray = true)
    (h : wpQuiet P l.toArray (fun w' => ∃ p : KW w, w' = p.w) (fun a' => ∀ w', Keeps [] w w' → Q .normal a' w') l a) : (Code.region id l.toArray true).wp P Q a w := by
  have e : (fun a' => ∀ w', Keeps [] w w' → Q .normal a' w') = fun a' => ∀ w', (∃ p : KW w, w' = p.w) → Q .normal a' w' := by
    funext a'
    exact propext ⟨fun h w' ⟨p, e⟩ => h w' (e ▸ p.k), fun h w' k => h w' ⟨⟨w', k⟩, rfl⟩⟩
  rw [e] at h
  exact wp_region_quiet (C := fun w' => ∃ p : KW w, w' = p.w) hm hB ⟨⟨w.drew, (Keeps.refl [] w).drew⟩, rfl⟩ (by simpa using h)
/-- A cell of an old block, in every world of the class. -/
theorem KW.cell {w0 : World} (p : KW w0) (b o : Nat) (h : b < w0.heap.size) : p.w.cell? ⟨b, o, none⟩ = w0.cell? ⟨b, o, none⟩ := p.k.cell h (by simp)
theorem KW.of {P : Program} {f : FuncId} {args : Array Value} {w0 : World} {v : Value} (h : ∀ W, Keeps [] w0 W → Calls P f args W fun e W' => e = .returned v ∧ Keeps [] W W') (p : KW w0) :
    Calls P f args p.w fun e w'' => e = .returned v ∧ ∃ q : KW w0, w'' = q.w :=
  (h p.w p.k).mono fun _ W' ⟨he, hk⟩ => ⟨he, ⟨W', p.k.trans hk⟩, rfl⟩
end Go.Proofs.YtomgnjgaafnkiaaGreatDoor
namespace Go.Proofs.YtomgnjgaafnkiaaGreatDoor
open Go.RowKit Go.BigFrame
attribute [local go_sem] bs_size bs_extract bs_append bs_toList
attribute [local go_sem] KW.cell
def aCells (a : Ar) : List Value := [.string (bs a.col), .int .i64 a.val.kind, .int .i64 a.val.num, .string (bs a.val.word)]
def aAgg (a : Ar) : Value := .agg #[.string (bs a.col), .int .i64 a.val.kind, .int .i64 a.val.num, .string (bs a.val.word)]
def optI : Option Nat → Int
  | some i => (i : Int)
  | none => -1
theorem findIxC_col (l : List Cl) (nm : Bs) : findIxC (fun c => c.name == nm) l = optI (colIx l nm) := by
  unfold findIxC colIx optI
  split <;> rename_i h <;> rw [h]
theorem isName_any (nm : Bs) (d : Cl) (b : Nat) (w : World) (hb : w.cell? ⟨b, 0, none⟩ = some (.string (bs nm))) :
    Calls Tryz.prog 91 #[cAgg d, .pointer (some ⟨b, 0, none⟩)] w fun e w' => e = .returned (.bool (d.name == nm)) ∧ Keeps [] w w' := by
  have hlt := World.block_lt_of_cell? _ _ hb
  have hb' : (w.alloc (.cells #[.string (bs d.name), .int .i64 d.kind] 39)).cell? ⟨b, 0, none⟩ = some (.string (bs nm)) := ((Keeps.refl [] w).alloc _).cell_of hb (by simp)
  have hk : Keeps [] w (w.alloc (.cells #[.string (bs d.name), .int .i64 d.kind] 39)) := (Keeps.refl [] w).alloc _
  have HK := Lib.hid hk
  clear hk
  show Calls _ _ #[.agg #[.string (bs d.name), .int .i64 d.kind], .pointer (some ⟨b, 0, none⟩)] w _
  go_enter Tryz.func91, Tryz.ntmps91
  go_wp2
  go_ret
  exact ⟨rfl, HK.out⟩
theorem find_any (l : List Cl) (nm : Bs) (A : Option Addr) (c : Nat) (w : World) (hA : Rd w [] 2 A l.length (csCells l)) (hl : l.length ≤ 4294967296) :
    Calls Tryz.prog 72 #[.slice A l.length c, .string (bs nm)] w fun e w' => e = .returned (.int .i64 (optI (colIx l nm))) ∧ Keeps [] w w' := by
  have hk : Keeps [] w (w.alloc (.cells #[.string (bs nm)] 9)) := (Keeps.refl [] w).alloc _
  have hc : (w.alloc (.cells #[.string (bs nm)] 9)).cell? ⟨w.heap.size, 0, none⟩ = some (.string (bs nm)) := (Blk.new _ _ _).cell 0
  have h := indexFuncC_any 91 #[.pointer (some ⟨w.heap.size, 0, none⟩)] (enters_of Tryz.func91 (by kernel_rfl) rfl) (fun c => c.name == nm) l A c (w.alloc (.cells #[.string (bs nm)] 9)) (hA.keep hk) hl (fun d _ W q => isName_any nm d _ W (q.cell_of hc (by simp)))
  rw [findIxC_col] at h
  have H := Lib.hid h
  have HK := Lib.hid hk
  clear h hk hc hA
  generalize optI (colIx l nm) = r at *
  go_enter Tryz.func72, Tryz.ntmps72
  go_wp2_with fail
  refine H.out.mono ?_
  rintro e w2 ⟨rfl, hk2⟩
  go_wp2
  go_ret
  exact ⟨rfl, HK.out.trans hk2⟩
/-- A value that stands in a box, whatever its place. -/
theorem vNeqZ (b : Vl) (W : World) : (binOp .neq 32 (.agg #[.int .i64 b.kind, .int .i64 b.num, .string (bs b.word)]) (.agg #[.int .i64 0, .int .i64 0, .string ⟨#[]⟩])).run Tryz.prog W = .ok (.bool (!decide (b = zV))) W := vNeq b zV W
set_option maxHeartbeats 2000000 in
theorem kind_any (a : Ar) (l : List Cl) (A : Option Addr) (c : Nat) (w : World) (hA : Rd w [] 2 A l.length (csCells l)) (hl : l.length ≤ 4294967296) :
    Calls Tryz.prog 87 #[aAgg a, .slice A l.length c] w fun e w' => e = .returned (.int .i64 (kindI a l)) ∧ Keeps [] w w' := by
  obtain ⟨nm, v⟩ := a
  show Calls _ _ #[.agg #[.string (bs nm), .int .i64 v.kind, .int .i64 v.num, .string (bs v.word)], .slice A l.length c] w _
  have hk0 : Keeps [] w (w.alloc (.cells #[.string (bs nm), .int .i64 v.kind, .int .i64 v.num, .string (bs v.word)] 34)) := (Keeps.refl [] w).alloc _
  have HK0 := Lib.hid hk0
  have HRV := Lib.hid (fun W => rightValue_any v W)
  have HF := Lib.hid (fun W (q : Keeps [] w W) => find_any l nm A c W (hA.keep q) hl)
  have HA := Lib.hid hA
  obtain ⟨R, hR⟩ : ∃ R, kindI ⟨nm, v⟩ l = R := ⟨_, rfl⟩
  rw [hR]
  have HR := Lib.hid hR
  clear hk0 hA hR
  cases nm with
  | nil =>
    have HR2 : Hid (R = if rvB v then v.kind else 0) := Lib.hid (by rw [← HR.out]; unfold kindI; rw [if_pos rfl])
    clear HR
    cases hr : rvB v with
    | false =>
      rw [hr] at HRV HR2
      clear hr
      go_enter Tryz.func87, Tryz.ntmps87
      go_wp2_with fail
      refine (HRV.out _).mono ?_
      rintro e w2 ⟨rfl, hk2⟩
      go_wp2
      go_ret
      exact ⟨by rw [HR2.out]; rfl, HK0.out.trans hk2⟩
    | true =>
      rw [hr] at HRV HR2
      clear hr
      go_enter Tryz.func87, Tryz.ntmps87
      go_wp2_with fail
      refine (HRV.out _).mono ?_
      rintro e w2 ⟨rfl, hk2⟩
      have c1 := hk2.cell_of (p := ⟨w.heap.size, 1, none⟩) (v := .int .i64 v.kind) ((Blk.new _ _ _).cell 1) (by simp)
      have HK2 := Lib.hid (HK0.out.trans hk2)
      clear hk2
      go_wp2
      go_ret
      exact ⟨by rw [HR2.out]; rfl, HK2.out⟩
  | cons x t =>
    have hR0 : R = match colIx l (x :: t) with | none => 0 | some k => if v = zV then (l.getD k zC).kind else 0 := by
      rw [← HR.out]
      unfold kindI
      rw [if_neg (by simp)]
      cases colIx l (x :: t) <;> rfl
    clear HR
    cases hci : colIx l (x :: t) with
    | none =>
      rw [hci] at HF hR0
      have HR2 : Hid (R = 0) := Lib.hid hR0
      clear hR0
      go_enter Tryz.func87, Tryz.ntmps87
      go_wp2_with fail
      refine (HF.out _ HK0.out).mono ?_
      rintro e w2 ⟨rfl, hk2⟩
      have HK2 := Lib.hid (HK0.out.trans hk2)
      clear hk2
      show _
      simp only [optI]
      go_wp2
      go_ret
      exact ⟨by rw [HR2.out]; rfl, HK2.out⟩
    | some k =>
      rw [hci] at HF hR0
      have hkl : k < l.length := (List.findIdx?_eq_some_iff_getElem.1 hci).1
      have hgd : l.getD k zC = l[k] := by rw [List.getD_eq_getElem?_getD, List.getElem?_eq_getElem hkl]; rfl
      obtain ⟨b, o, hAe, _, hb, hcs⟩ := HA.out.open' (by omega) (by omega)
      subst hAe
      have d1 := hcs (k * 2 + 1) _ (csCells_at l k hkl).2
      rw [← Nat.add_assoc] at d1
      have hi0 : ((k : Int) < 0) = False := eq_false (by omega)
      have hi1 : (0 : Int) ≤ (k : Int) := by omega
      have hi2 : (k : Int) < (l.length : Int) := by omega
      have hq := vNeqZ v
      have hR1 : R = if v = zV then (l.getD k zC).kind else 0 := hR0
      rw [hgd] at hR1
      have HR2 := Lib.hid hR1
      clear hR0 hR1
      generalize l[k] = cc at *
      clear hci hcs hgd
      by_cases hz : v = zV
      · rw [decide_eq_true hz] at hq
        have HR3 : Hid (R = cc.kind) := Lib.hid (by rw [HR2.out, if_pos hz])
        clear hz HR2
        go_enter Tryz.func87, Tryz.ntmps87
        go_wp2_with fail
        refine (HF.out _ HK0.out).mono ?_
        rintro e w2 ⟨rfl, hk2⟩
        simp only [optI]
        have c1 := hk2.cell_of (p := ⟨w.heap.size, 1, none⟩) (v := .int .i64 v.kind) ((Blk.new _ _ _).cell 1) (by simp)
        have c2 := hk2.cell_of (p := ⟨w.heap.size, 2, none⟩) (v := .int .i64 v.num) ((Blk.new _ _ _).cell 2) (by simp)
        have c3 := hk2.cell_of (p := ⟨w.heap.size, 3, none⟩) (v := .string (bs v.word)) ((Blk.new _ _ _).cell 3) (by simp)
        have d2 := (HK0.out.trans hk2).cell_of d1 (by simp)
        have HK2 := Lib.hid (HK0.out.trans hk2)
        clear hk2
        go_wp2
        go_ret
        exact ⟨by rw [HR3.out]; rfl, HK2.out⟩
      · rw [decide_eq_false hz] at hq
        have HR3 : Hid (R = 0) := Lib.hid (by rw [HR2.out, if_neg hz])
        clear hz HR2
        go_enter Tryz.func87, Tryz.ntmps87
        go_wp2_with fail
        refine (HF.out _ HK0.out).mono ?_
        rintro e w2 ⟨rfl, hk2⟩
        simp only [optI]
        have c1 := hk2.cell_of (p := ⟨w.heap.size, 1, none⟩) (v := .int .i64 v.kind) ((Blk.new _ _ _).cell 1) (by simp)
        have c2 := hk2.cell_of (p := ⟨w.heap.size, 2, none⟩) (v := .int .i64 v.num) ((Blk.new _ _ _).cell 2) (by simp)
        have c3 := hk2.cell_of (p := ⟨w.heap.size, 3, none⟩) (v := .string (bs v.word)) ((Blk.new _ _ _).cell 3) (by simp)
        have HK2 := Lib.hid (HK0.out.trans hk2)
        clear hk2
        go_wp2
        go_ret
        exact ⟨by rw [HR3.out]; rfl, HK2.out⟩
set_option maxHeartbeats 4000000 in
/-- holds. -/
theorem holds_any (a : Vl) (op : Bs) (b : Vl) (w : World) :
    Calls Tryz.prog 69 #[vAgg a, .string (bs op), vAgg b] w fun e w' => e = .returned (.bool (holdsB a op b)) ∧ Keeps [] w w' := by
  obtain ⟨R, hR⟩ : ∃ R, holdsB a op b = R := ⟨_, rfl⟩
  rw [hR]
  have HR : Hid (R = if op = [61] then !lessB a b && !lessB b a else if op = [60, 62] then lessB a b || lessB b a else if op = [60] then lessB a b else if op = [60, 61] then !lessB b a else if op = [62] then lessB b a else !lessB a b) := Lib.hid hR.symm
  clear hR
  obtain ⟨w2, hw2⟩ : ∃ w2, (w.alloc (.cells #[.int .i64 a.kind, .int .i64 a.num, .string (bs a.word)] 32)).alloc (.cells #[.int .i64 b.kind, .int .i64 b.num, .string (bs b.word)] 32) = w2 := ⟨_, rfl⟩
  have HK : Hid (Keeps [] w w2) := Lib.hid (by rw [← hw2]; exact ((Keeps.refl _ _).alloc _).alloc _)
  have ha := (Blk.new w 32 #[.int .i64 a.kind, .int .i64 a.num, .string (bs a.word)]).alloc (.cells #[.int .i64 b.kind, .int .i64 b.num, .string (bs b.word)] 32)
  have hb := Blk.new (w.alloc (.cells #[.int .i64 a.kind, .int .i64 a.num, .string (bs a.word)] 32)) 32 #[.int .i64 b.kind, .int .i64 b.num, .string (bs b.word)]
  rw [show (w.alloc (.cells #[.int .i64 a.kind, .int .i64 a.num, .string (bs a.word)] 32)).heap.size = w.heap.size + 1 from Array.size_push _] at hb
  rw [hw2] at ha hb
  have C0 : Hid (w2.cell? ⟨w.heap.size, 0, none⟩ = some (.int .i64 a.kind)) := Lib.hid (ha.cell 0)
  have C1 : Hid (w2.cell? ⟨w.heap.size, 1, none⟩ = some (.int .i64 a.num)) := Lib.hid (ha.cell 1)
  have C2 : Hid (w2.cell? ⟨w.heap.size, 2, none⟩ = some (.string (bs a.word))) := Lib.hid (ha.cell 2)
  have D0 : Hid (w2.cell? ⟨w.heap.size + 1, 0, none⟩ = some (.int .i64 b.kind)) := Lib.hid (hb.cell 0)
  have D1 : Hid (w2.cell? ⟨w.heap.size + 1, 1, none⟩ = some (.int .i64 b.num)) := Lib.hid (hb.cell 1)
  have D2 : Hid (w2.cell? ⟨w.heap.size + 1, 2, none⟩ = some (.string (bs b.word))) := Lib.hid (hb.cell 2)
  have L0 : Hid (w.heap.size < w2.heap.size) := Lib.hid ha.lt
  have L1 : Hid (w.heap.size + 1 < w2.heap.size) := Lib.hid hb.lt
  have HW := Lib.hid hw2
  have HLA0 := Lib.hid (fun W => less_any a b W)
  have HLB0 := Lib.hid (fun W => less_any b a W)
  generalize lessB a b = m at *
  generalize lessB b a = n at *
  clear ha hb hw2
  obtain ⟨k1, n1, s1⟩ := a
  obtain ⟨k2, n2, s2⟩ := b
  have HLA : Hid (∀ W, Keeps [] w2 W → Calls Tryz.prog 16 #[.agg #[.int .i64 k1, .int .i64 n1, .string (bs s1)], .agg #[.int .i64 k2, .int .i64 n2, .string (bs s2)]] W fun e W' => e = .returned (.bool m) ∧ Keeps [] W W') := Lib.hid fun W _ => HLA0.out W
  have HLB : Hid (∀ W, Keeps [] w2 W → Calls Tryz.prog 16 #[.agg #[.int .i64 k2, .int .i64 n2, .string (bs s2)], .agg #[.int .i64 k1, .int .i64 n1, .string (bs s1)]] W fun e W' => e = .returned (.bool n) ∧ Keeps [] W W') := Lib.hid fun W _ => HLB0.out W
  clear HLA0 HLB0
  simp only at HW C0 C1 C2 D0 D1 D2 HK L0 L1
  by_cases h0 : op = [61]
  · subst h0
    have HF : Hid (R = (!m && !n)) := Lib.hid (HR.out.trans (if_pos rfl))
    clear HR
    cases m <;> cases n
    all_goals
      show Calls _ _ #[.agg #[.int .i64 k1, .int .i64 n1, .string (bs s1)], .string ⟨#[61]⟩, .agg #[.int .i64 k2, .int .i64 n2, .string (bs s2)]] w _
      go_enter Tryz.func69, Tryz.ntmps69
      go_wp2_with fail
      have c0 := C0.out
      have c1 := C1.out
      have c2 := C2.out
      have d0 := D0.out
      have d1 := D1.out
      have d2 := D2.out
      have l0 := L0.out
      have l1 := L1.out
      rw [HW.out]
      refine wp_region_keeps (by kernel_rfl) (by kernel_rfl) ?_
      repeat (go_big_quiet_step (first | with_reducible exact KW.of HLA.out _ | with_reducible exact KW.of HLB.out _))
      refine wpQuiet_nil ?_
      intro wx kx
      clear c0 c1 c2 d0 d1 d2
      go_wp2
      go_ret
      exact ⟨by rw [HF.out]; rfl, HK.out.trans kx⟩
  · have t0 : (op == [61]) = false := by rw [beq_eq_false_iff_ne]; exact h0
    by_cases h1 : op = [60, 62]
    · subst h1
      have HF : Hid (R = (m || n)) := Lib.hid (HR.out.trans ((if_neg (show ¬ (([60, 62] : Bs) = [61]) by decide)).trans (if_pos rfl)))
      clear HR
      cases m <;> cases n
      all_goals
        show Calls _ _ #[.agg #[.int .i64 k1, .int .i64 n1, .string (bs s1)], .string ⟨#[60, 62]⟩, .agg #[.int .i64 k2, .int .i64 n2, .string (bs s2)]] w _
        go_enter Tryz.func69, Tryz.ntmps69
        go_wp2_with fail
        have c0 := C0.out
        have c1 := C1.out
        have c2 := C2.out
        have d0 := D0.out
        have d1 := D1.out
        have d2 := D2.out
        have l0 := L0.out
        have l1 := L1.out
        rw [HW.out]
        refine wp_region_keeps (by kernel_rfl) (by kernel_rfl) ?_
        repeat (go_big_quiet_step (first | with_reducible exact KW.of HLA.out _ | with_reducible exact KW.of HLB.out _))
        refine wpQuiet_nil ?_
        intro wx kx
        clear c0 c1 c2 d0 d1 d2
        go_wp2
        go_ret
        exact ⟨by rw [HF.out]; rfl, HK.out.trans kx⟩
    · have t1 : (op == [60, 62]) = false := by rw [beq_eq_false_iff_ne]; exact h1
      by_cases h2 : op = [60]
      · subst h2
        have HF : Hid (R = (m)) := Lib.hid (HR.out.trans ((if_neg (show ¬ (([60] : Bs) = [61]) by decide)).trans ((if_neg (show ¬ (([60] : Bs) = [60, 62]) by decide)).trans (if_pos rfl))))
        clear HR
        show Calls _ _ #[.agg #[.int .i64 k1, .int .i64 n1, .string (bs s1)], .string ⟨#[60]⟩, .agg #[.int .i64 k2, .int .i64 n2, .string (bs s2)]] w _
        go_enter Tryz.func69, Tryz.ntmps69
        go_wp2_with fail
        have c0 := C0.out
        have c1 := C1.out
        have c2 := C2.out
        have d0 := D0.out
        have d1 := D1.out
        have d2 := D2.out
        have l0 := L0.out
        have l1 := L1.out
        rw [HW.out]
        refine wp_region_keeps (by kernel_rfl) (by kernel_rfl) ?_
        repeat (go_big_quiet_step (first | with_reducible exact KW.of HLA.out _ | with_reducible exact KW.of HLB.out _))
        refine wpQuiet_nil ?_
        intro wx kx
        clear c0 c1 c2 d0 d1 d2
        go_wp2
        go_ret
        exact ⟨by rw [HF.out]; rfl, HK.out.trans kx⟩
      · have t2 : (op == [60]) = false := by rw [beq_eq_false_iff_ne]; exact h2
        by_cases h3 : op = [60, 61]
        · subst h3
          have HF : Hid (R = (!n)) := Lib.hid (HR.out.trans ((if_neg (show ¬ (([60, 61] : Bs) = [61]) by decide)).trans ((if_neg (show ¬ (([60, 61] : Bs) = [60, 62]) by decide)).trans ((if_neg (show ¬ (([60, 61] : Bs) = [60]) by decide)).trans (if_pos rfl)))))
          clear HR
          show Calls _ _ #[.agg #[.int .i64 k1, .int .i64 n1, .string (bs s1)], .string ⟨#[60, 61]⟩, .agg #[.int .i64 k2, .int .i64 n2, .string (bs s2)]] w _
          go_enter Tryz.func69, Tryz.ntmps69
          go_wp2_with fail
          have c0 := C0.out
          have c1 := C1.out
          have c2 := C2.out
          have d0 := D0.out
          have d1 := D1.out
          have d2 := D2.out
          have l0 := L0.out
          have l1 := L1.out
          rw [HW.out]
          refine wp_region_keeps (by kernel_rfl) (by kernel_rfl) ?_
          repeat (go_big_quiet_step (first | with_reducible exact KW.of HLA.out _ | with_reducible exact KW.of HLB.out _))
          refine wpQuiet_nil ?_
          intro wx kx
          clear c0 c1 c2 d0 d1 d2
          go_wp2
          go_ret
          exact ⟨by rw [HF.out]; rfl, HK.out.trans kx⟩
        · have t3 : (op == [60, 61]) = false := by rw [beq_eq_false_iff_ne]; exact h3
          by_cases h4 : op = [62]
          · subst h4
            have HF : Hid (R = (n)) := Lib.hid (HR.out.trans ((if_neg (show ¬ (([62] : Bs) = [61]) by decide)).trans ((if_neg (show ¬ (([62] : Bs) = [60, 62]) by decide)).trans ((if_neg (show ¬ (([62] : Bs) = [60]) by decide)).trans ((if_neg (show ¬ (([62] : Bs) = [60, 61]) by decide)).trans (if_pos rfl))))))
            clear HR
            show Calls _ _ #[.agg #[.int .i64 k1, .int .i64 n1, .string (bs s1)], .string ⟨#[62]⟩, .agg #[.int .i64 k2, .int .i64 n2, .string (bs s2)]] w _
            go_enter Tryz.func69, Tryz.ntmps69
            go_wp2_with fail
            have c0 := C0.out
            have c1 := C1.out
            have c2 := C2.out
            have d0 := D0.out
            have d1 := D1.out
            have d2 := D2.out
            have l0 := L0.out
            have l1 := L1.out
            rw [HW.out]
            refine wp_region_keeps (by kernel_rfl) (by kernel_rfl) ?_
            repeat (go_big_quiet_step (first | with_reducible exact KW.of HLA.out _ | with_reducible exact KW.of HLB.out _))
            refine wpQuiet_nil ?_
            intro wx kx
            clear c0 c1 c2 d0 d1 d2
            go_wp2
            go_ret
            exact ⟨by rw [HF.out]; rfl, HK.out.trans kx⟩
          · have t4 : (op == [62]) = false := by rw [beq_eq_false_iff_ne]; exact h4
            have HF : Hid (R = !m) := Lib.hid (by rw [HR.out, if_neg h0, if_neg h1, if_neg h2, if_neg h3, if_neg h4])
            clear h0 h1 h2 h3 h4
            show Calls _ _ #[.agg #[.int .i64 k1, .int .i64 n1, .string (bs s1)], .string (bs op), .agg #[.int .i64 k2, .int .i64 n2, .string (bs s2)]] w _
            go_enter Tryz.func69, Tryz.ntmps69
            go_wp2_with fail
            have c0 := C0.out
            have c1 := C1.out
            have c2 := C2.out
            have d0 := D0.out
            have d1 := D1.out
            have d2 := D2.out
            have l0 := L0.out
            have l1 := L1.out
            rw [HW.out]
            refine wp_region_keeps (by kernel_rfl) (by kernel_rfl) ?_
            repeat (go_big_quiet_step (first | with_reducible exact KW.of HLA.out _ | with_reducible exact KW.of HLB.out _))
            refine wpQuiet_nil ?_
            intro wx kx
            clear c0 c1 c2 d0 d1 d2
            go_wp2
            go_ret
            exact ⟨by rw [HF.out]; rfl, HK.out.trans kx⟩
end Go.Proofs.YtomgnjgaafnkiaaGreatDoor
