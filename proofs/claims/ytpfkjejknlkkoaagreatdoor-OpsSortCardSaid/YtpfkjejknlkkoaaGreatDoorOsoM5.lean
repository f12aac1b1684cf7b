/- Columns and values compared as wholes. A region that draws its order, whose operations only read and whose callees keep what was there: walked once, in the order of the text. (but holds) ops: find, holds, kind, Sizes, arg. -/
import Derived.Test.YtpfkjejknlkkoaaGreatDoorOsoM3
import Derived.Test.YtpfkjejknlkkoaaGreatDoorOsoM1
import Derived.Test.YtpfkjejknlkkoaaGreatDoorOsoM4
set_option linter.unusedSimpArgs false
set_option linter.unusedVariables false
namespace Go.Proofs.YtpfkjejknlkkoaaGreatDoor
open Go.RowKit
attribute [local go_sem] bs_size bs_extract bs_append bs_toList
theorem cNeq (a b : Cl) (W : World) : (binOp .neq 39 (.agg #[.string (bs a.name), .int .i64 a.kind]) (.agg #[.string (bs b.name), .int .i64 b.kind])).run Tryz.prog W = .ok (.bool (!decide (a = b))) W := by
 have hd : decide (a = b) = (decide (a.name = b.name) && decide (a.kind = b.kind)) := by
  obtain ⟨n, k⟩ := a
  obtain ⟨n2, k2⟩ := b
  rw [Bool.eq_iff_iff]
  simp
 rw [hd]
 simp [go_sem]
 by_cases h1 : a.name = b.name <;> by_cases h2 : a.kind = b.kind <;> simp [h1, h2, go_sem]
theorem vNeq (a b : Vl) (W : World) : (binOp .neq 32 (.agg #[.int .i64 a.kind, .int .i64 a.num, .string (bs a.word)]) (.agg #[.int .i64 b.kind, .int .i64 b.num, .string (bs b.word)])).run Tryz.prog W = .ok (.bool (!decide (a = b))) W := by
 have hd : decide (a = b) = (decide (a.kind = b.kind) && decide (a.num = b.num) && decide (a.word = b.word)) := by
  obtain ⟨k, n, s⟩ := a
  obtain ⟨k2, n2, s2⟩ := b
  rw [Bool.eq_iff_iff]
  simp [and_assoc]
 rw [hd]
 simp [go_sem]
 by_cases h1 : a.kind = b.kind <;> by_cases h2 : a.num = b.num <;> by_cases h3 : a.word = b.word <;> simp [h1, h2, h3, go_sem]
end Go.Proofs.YtpfkjejknlkkoaaGreatDoor
namespace Go.Proofs.YtpfkjejknlkkoaaGreatDoor
open Go.RowKit
structure KW (w0 : World) where
 w : World
 k : Keeps [] w0 w
instance (w0 : World) : Inhabited (KW w0) := ⟨⟨w0, Keeps.refl [] w0⟩⟩
theorem wp_region_keeps {P : Program} {id : Nat} {Q : Exit → Act → World → Prop} {a : Act} {w : World} {l : List Oper} (hm : P.follows .mixedOrders = true) (hB : Region.lexB .any l.toArray = true)
  (h : wpQuiet P l.toArray (fun w' => ∃ p : KW w, w' = p.w) (fun a' => ∀ w', Keeps [] w w' → Q .normal a' w') l a) : (Code.region id l.toArray true).wp P Q a w := by
 have e : (fun a' => ∀ w', Keeps [] w w' → Q .normal a' w') = fun a' => ∀ w', (∃ p : KW w, w' = p.w) → Q .normal a' w' := by
  funext a'
  exact propext ⟨fun h w' ⟨p, e⟩ => h w' (e ▸ p.k), fun h w' k => h w' ⟨⟨w', k⟩, rfl⟩⟩
 rw [e] at h
 exact wp_region_quiet (C := fun w' => ∃ p : KW w, w' = p.w) hm hB ⟨⟨w.drew, (Keeps.refl [] w).drew⟩, rfl⟩ (by simpa using h)
theorem KW.cell {w0 : World} (p : KW w0) (b o : Nat) (h : b < w0.heap.size) : p.w.cell? ⟨b, o, none⟩ = w0.cell? ⟨b, o, none⟩ := p.k.cell h (by simp)
theorem KW.of {P : Program} {f : FuncId} {args : Array Value} {w0 : World} {v : Value} (h : ∀ W, Keeps [] w0 W → Calls P f args W fun e W' => e = .returned v ∧ Keeps [] W W') (p : KW w0) :
  Calls P f args p.w fun e w'' => e = .returned v ∧ ∃ q : KW w0, w'' = q.w :=
 (h p.w p.k).mono fun _ W' ⟨he, hk⟩ => ⟨he, ⟨W', p.k.trans hk⟩, rfl⟩
end Go.Proofs.YtpfkjejknlkkoaaGreatDoor
namespace Go.Proofs.YtpfkjejknlkkoaaGreatDoor
open Go.RowKit Go.BigFrame
attribute [local go_sem] bs_size bs_extract bs_append bs_toList
attribute [local go_sem] KW.cell
def aCells (a : Ar) : List Value := [.string (bs a.col), .int .i64 a.val.kind, .int .i64 a.val.num, .string (bs a.val.word)]
def aAgg (a : Ar) : Value := .agg #[.string (bs a.col), .int .i64 a.val.kind, .int .i64 a.val.num, .string (bs a.val.word)]
def optI : Option Nat → Int
 | some i => (i : Int)
 | none => -1
theorem findIxC_col (l : List Cl) (nm : Bs) : findIxC (fun c => c.name == nm) l = optI (colIx l nm) := by
 unfold findIxC colIx optI
 split <;> rename_i h <;> rw [h]
theorem isName_any (nm : Bs) (d : Cl) (b : Nat) (w : World) (hb : w.cell? ⟨b, 0, none⟩ = some (.string (bs nm))) :
  Calls Tryz.prog 89 #[cAgg d, .pointer (some ⟨b, 0, none⟩)] w fun e w' => e = .returned (.bool (d.name == nm)) ∧ Keeps [] w w' := by
 have hlt := World.block_lt_of_cell? _ _ hb
 have hb' : (w.alloc (.cells #[.string (bs d.name), .int .i64 d.kind] 39)).cell? ⟨b, 0, none⟩ = some (.string (bs nm)) := ((Keeps.refl [] w).alloc _).cell_of hb (by simp)
 have hk : Keeps [] w (w.alloc (.cells #[.string (bs d.name), .int .i64 d.kind] 39)) := (Keeps.refl [] w).alloc _
 have HK := Lib.hid hk
 clear hk
 show Calls _ _ #[.agg #[.string (bs d.name), .int .i64 d.kind], .pointer (some ⟨b, 0, none⟩)] w _
 go_enter Tryz.func89, Tryz.ntmps89
 go_wp2
 go_ret
 exact ⟨rfl, HK.out⟩
theorem find_any (l : List Cl) (nm : Bs) (A : Option Addr) (c : Nat) (w : World) (hA : Rd w [] 2 A l.length (csCells l)) (hl : l.length ≤ 4294967296) :
  Calls Tryz.prog 66 #[.slice A l.length c, .string (bs nm)] w fun e w' => e = .returned (.int .i64 (optI (colIx l nm))) ∧ Keeps [] w w' := by
 have hk : Keeps [] w (w.alloc (.cells #[.string (bs nm)] 9)) := (Keeps.refl [] w).alloc _
 have hc : (w.alloc (.cells #[.string (bs nm)] 9)).cell? ⟨w.heap.size, 0, none⟩ = some (.string (bs nm)) := (Blk.new _ _ _).cell 0
 have h := indexFuncC_any 89 #[.pointer (some ⟨w.heap.size, 0, none⟩)] (enters_of Tryz.func89 (by kernel_rfl) rfl) (fun c => c.name == nm) l A c (w.alloc (.cells #[.string (bs nm)] 9)) (hA.keep hk) hl (fun d _ W q => isName_any nm d _ W (q.cell_of hc (by simp)))
 rw [findIxC_col] at h
 have H := Lib.hid h
 have HK := Lib.hid hk
 clear h hk hc hA
 generalize optI (colIx l nm) = r at *
 go_enter Tryz.func66, Tryz.ntmps66
 go_wp2_with fail
 refine H.out.mono ?_
 rintro e w2 ⟨rfl, hk2⟩
 go_wp2
 go_ret
 exact ⟨rfl, HK.out.trans hk2⟩
theorem vNeqZ (b : Vl) (W : World) : (binOp .neq 32 (.agg #[.int .i64 b.kind, .int .i64 b.num, .string (bs b.word)]) (.agg #[.int .i64 0, .int .i64 0, .string ⟨#[]⟩])).run Tryz.prog W = .ok (.bool (!decide (b = zV))) W := vNeq b zV W
set_option maxHeartbeats 2000000 in
theorem kind_any (a : Ar) (l : List Cl) (A : Option Addr) (c : Nat) (w : World) (hA : Rd w [] 2 A l.length (csCells l)) (hl : l.length ≤ 4294967296) :
  Calls Tryz.prog 85 #[aAgg a, .slice A l.length c] w fun e w' => e = .returned (.int .i64 (kindI a l)) ∧ Keeps [] w w' := by
 obtain ⟨nm, v⟩ := a
 show Calls _ _ #[.agg #[.string (bs nm), .int .i64 v.kind, .int .i64 v.num, .string (bs v.word)], .slice A l.length c] w _
 have hk0 : Keeps [] w (w.alloc (.cells #[.string (bs nm), .int .i64 v.kind, .int .i64 v.num, .string (bs v.word)] 34)) := (Keeps.refl [] w).alloc _
 have HK0 := Lib.hid hk0
 have HRV := Lib.hid (fun W => rightValue_any v W)
 have HF := Lib.hid (fun W (q : Keeps [] w W) => find_any l nm A c W (hA.keep q) hl)
 have HA := Lib.hid hA
 obtain ⟨R, hR⟩ : ∃ R, kindI ⟨nm, v⟩ l = R := ⟨_, rfl⟩
 rw [hR]
 have HR := Lib.hid hR
 clear hk0 hA hR
 cases nm with
 | nil =>
  have HR2 : Hid (R = if rvB v then v.kind else 0) := Lib.hid (by rw [← HR.out]; unfold kindI; rw [if_pos rfl])
  clear HR
  cases hr : rvB v with
  | false =>
   rw [hr] at HRV HR2
   clear hr
   go_enter Tryz.func85, Tryz.ntmps85
   go_wp2_with fail
   refine (HRV.out _).mono ?_
   rintro e w2 ⟨rfl, hk2⟩
   go_wp2
   go_ret
   exact ⟨by rw [HR2.out]; rfl, HK0.out.trans hk2⟩
  | true =>
   rw [hr] at HRV HR2
   clear hr
   go_enter Tryz.func85, Tryz.ntmps85
   go_wp2_with fail
   refine (HRV.out _).mono ?_
   rintro e w2 ⟨rfl, hk2⟩
   have c1 := hk2.cell_of (p := ⟨w.heap.size, 1, none⟩) (v := .int .i64 v.kind) ((Blk.new _ _ _).cell 1) (by simp)
   have HK2 := Lib.hid (HK0.out.trans hk2)
   clear hk2
   go_wp2
   go_ret
   exact ⟨by rw [HR2.out]; rfl, HK2.out⟩
 | cons x t =>
  have hR0 : R = match colIx l (x :: t) with | none => 0 | some k => if v = zV then (l.getD k zC).kind else 0 := by
   rw [← HR.out]
   unfold kindI
   rw [if_neg (by simp)]
   cases colIx l (x :: t) <;> rfl
  clear HR
  cases hci : colIx l (x :: t) with
  | none =>
   rw [hci] at HF hR0
   have HR2 : Hid (R = 0) := Lib.hid hR0
   clear hR0
   go_enter Tryz.func85, Tryz.ntmps85
   go_wp2_with fail
   refine (HF.out _ HK0.out).mono ?_
   rintro e w2 ⟨rfl, hk2⟩
   have HK2 := Lib.hid (HK0.out.trans hk2)
   clear hk2
   show _
   simp only [optI]
   go_wp2
   go_ret
   exact ⟨by rw [HR2.out]; rfl, HK2.out⟩
  | some k =>
   rw [hci] at HF hR0
   have hkl : k < l.length := (List.findIdx?_eq_some_iff_getElem.1 hci).1
   have hgd : l.getD k zC = l[k] := by rw [List.getD_eq_getElem?_getD, List.getElem?_eq_getElem hkl]; rfl
   obtain ⟨b, o, hAe, _, hb, hcs⟩ := HA.out.open' (by omega) (by omega)
   subst hAe
   have d1 := hcs (k * 2 + 1) _ (csCells_at l k hkl).2
   rw [← Nat.add_assoc] at d1
   have hi0 : ((k : Int) < 0) = False := eq_false (by omega)
   have hi1 : (0 : Int) ≤ (k : Int) := by omega
   have hi2 : (k : Int) < (l.length : Int) := by omega
   have hq := vNeqZ v
   have hR1 : R = if v = zV then (l.getD k zC).kind else 0 := hR0
   rw [hgd] at hR1
   have HR2 := Lib.hid hR1
   clear hR0 hR1
   generalize l[k] = cc at *
   clear hci hcs hgd
   by_cases hz : v = zV
   ·rw [decide_eq_true hz] at hq
    have HR3 : Hid (R = cc.kind) := Lib.hid (by rw [HR2.out, if_pos hz])
    clear hz HR2
    go_enter Tryz.func85, Tryz.ntmps85
    go_wp2_with fail
    refine (HF.out _ HK0.out).mono ?_
    rintro e w2 ⟨rfl, hk2⟩
    simp only [optI]
    have c1 := hk2.cell_of (p := ⟨w.heap.size, 1, none⟩) (v := .int .i64 v.kind) ((Blk.new _ _ _).cell 1) (by simp)
    have c2 := hk2.cell_of (p := ⟨w.heap.size, 2, none⟩) (v := .int .i64 v.num) ((Blk.new _ _ _).cell 2) (by simp)
    have c3 := hk2.cell_of (p := ⟨w.heap.size, 3, none⟩) (v := .string (bs v.word)) ((Blk.new _ _ _).cell 3) (by simp)
    have d2 := (HK0.out.trans hk2).cell_of d1 (by simp)
    have HK2 := Lib.hid (HK0.out.trans hk2)
    clear hk2
    go_wp2
    go_ret
    exact ⟨by rw [HR3.out]; rfl, HK2.out⟩
   ·rw [decide_eq_false hz] at hq
    have HR3 : Hid (R = 0) := Lib.hid (by rw [HR2.out, if_neg hz])
    clear hz HR2
    go_enter Tryz.func85, Tryz.ntmps85
    go_wp2_with fail
    refine (HF.out _ HK0.out).mono ?_
    rintro e w2 ⟨rfl, hk2⟩
    simp only [optI]
    have c1 := hk2.cell_of (p := ⟨w.heap.size, 1, none⟩) (v := .int .i64 v.kind) ((Blk.new _ _ _).cell 1) (by simp)
    have c2 := hk2.cell_of (p := ⟨w.heap.size, 2, none⟩) (v := .int .i64 v.num) ((Blk.new _ _ _).cell 2) (by simp)
    have c3 := hk2.cell_of (p := ⟨w.heap.size, 3, none⟩) (v := .string (bs v.word)) ((Blk.new _ _ _).cell 3) (by simp)
    have HK2 := Lib.hid (HK0.out.trans hk2)
    clear hk2
    go_wp2
    go_ret
    exact ⟨by rw [HR3.out]; rfl, HK2.out⟩
end Go.Proofs.YtpfkjejknlkkoaaGreatDoor
