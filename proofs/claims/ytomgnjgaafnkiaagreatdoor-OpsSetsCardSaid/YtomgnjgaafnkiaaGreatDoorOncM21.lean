/- OpsSets as plain data: there and back. No program in sight. OpsSets: its closures. OpsSets: its predicates. -/
import Derived.Test.YtomgnjgaafnkiaaGreatDoorOncM18
import Derived.Test.YtomgnjgaafnkiaaGreatDoorOncM20
import Derived.Test.YtomgnjgaafnkiaaGreatDoorOncM4
import Derived.Test.YtomgnjgaafnkiaaGreatDoorOncM8
namespace Go.Proofs.YtomgnjgaafnkiaaGreatDoor
def jS (col op : Bs) (right : Ar) : Jb := ⟨0, 2, [], [], [col], op, ⟨col, zV⟩, right, 0⟩
def numA (n : Int) : Ar := ⟨[], ⟨1, n, []⟩⟩
/-- A column of numbers, of a table that may be. -/
def SetK (t : Tb) (col : Bs) (k : Nat) : Prop := rightB t = true ∧ col ≠ [] ∧ colIx t.cols col = some k ∧ (t.cols.getD k zC).kind = 1
def setV (op : Bs) (k : Nat) (r : List Vl) (y : Int) : List Vl := r.set k ⟨(r.getD k zV).kind, setN op (r.getD k zV).num y, (r.getD k zV).word⟩
theorem kind_self {t : Tb} {col : Bs} {k : Nat} (h : SetK t col k) : kindI ⟨col, zV⟩ t.cols = 1 := by
  obtain ⟨_, h1, h2, h3⟩ := h
  unfold kindI
  simp only
  rw [if_neg h1, h2]
  simp only
  rw [if_pos trivial, h3]
theorem kind_num {n : Int} (h1 : -1000000000 ≤ n) (h2 : n ≤ 1000000000) (l : List Cl) : kindI (numA n) l = 1 := by
  unfold kindI numA
  simp only
  rw [if_pos trivial, if_pos]
  unfold rvB
  simp only
  rw [if_pos trivial]
  simp only [Bool.and_eq_true, decide_eq_true_eq]
  exact ⟨⟨rfl, h1⟩, h2⟩
theorem arg_self {t : Tb} {col : Bs} {k : Nat} (h : SetK t col k) (r : List Vl) : argV ⟨col, zV⟩ t.cols r = r.getD k zV := by
  unfold argV
  simp only
  rw [if_neg h.2.1, h.2.2.1]
theorem arg_num (n : Int) (l : List Cl) (r : List Vl) : argV (numA n) l r = ⟨1, n, []⟩ := by
  unfold argV numA
  simp only
  rw [if_pos trivial]
theorem set_ok_of {t : Tb} {col op : Bs} {k : Nat} {right : Ar} (h : SetK t col k) (hop : op = [43] ∨ op = [45] ∨ op = [42]) (hr : kindI right t.cols = 1) : setOk (jS col op right) t.cols k :=
  ⟨rfl, hop, h.2.2.1, h.2.2.2, kind_self h, hr⟩
theorem set_bad {t : Tb} {col : Bs} (h : ¬ ∃ k, SetK t col k) (op : Bs) (right : Ar) : oneJ (jS col op right) [t] = none := one_none fun u hu => by
  obtain ⟨hr, ⟨k, _, _, h3, h4, h5, _⟩, _⟩ := (one_set rfl).1 hu
  refine h ⟨k, hr, fun h0 => ?_, h3, h4⟩
  subst h0
  have : kindI ⟨[], zV⟩ t.cols = 1 := h5
  unfold kindI at this
  simp only at this
  rw [if_pos trivial] at this
  have hz : rvB zV = false := by decide
  rw [hz] at this
  cases this
theorem change_at {t : Tb} {col op : Bs} {k : Nat} {right : Ar} (h : SetK t col k) {r x : List Vl} : changeRow (jS col op right) t r = some x ↔ (-1000000000 ≤ setN op (r.getD k zV).num (argV right t.cols r).num ∧ setN op (r.getD k zV).num (argV right t.cols r).num ≤ 1000000000) ∧ x = setV op k r (argV right t.cols r).num := by
  rw [changeRow_some (j := jS col op right) (a := t) (k := k) h.2.2.1]
  have e : argV (jS col op right).left t.cols r = r.getD k zV := arg_self h r
  rw [e]
  exact Iff.rfl
theorem set_some {t : Tb} {col op : Bs} {k : Nat} {right : Ar} (h : SetK t col k) (hop : op = [43] ∨ op = [45] ∨ op = [42]) (hr : kindI right t.cols = 1) (hb : ∀ r ∈ t.rows, -1000000000 ≤ setN op (r.getD k zV).num (argV right t.cols r).num ∧ setN op (r.getD k zV).num (argV right t.cols r).num ≤ 1000000000) :
    oneJ (jS col op right) [t] = some ⟨t.cols, t.rows.map fun r => setV op k r (argV right t.cols r).num⟩ := by
  refine (one_set rfl).2 ⟨h.1, ⟨k, set_ok_of h hop hr⟩, _, (change_ok _ _ _ _ _).2 ⟨t.rows.map fun r => setV op k r (argV right t.cols r).num, by simp, by simp, fun i h1 h2 => ?_⟩, rfl⟩
  rw [List.getElem_map]
  exact (change_at h).2 ⟨hb _ (List.getElem_mem h1), rfl⟩
theorem set_out {t : Tb} {col op : Bs} {k : Nat} {right : Ar} (h : SetK t col k) {r : List Vl} (hm : r ∈ t.rows) (hb : ¬ (-1000000000 ≤ setN op (r.getD k zV).num (argV right t.cols r).num ∧ setN op (r.getD k zV).num (argV right t.cols r).num ≤ 1000000000)) : oneJ (jS col op right) [t] = none := one_none fun u hu => by
  obtain ⟨_, _, l, hl, _⟩ := (one_set rfl).1 hu
  obtain ⟨q, _, hq, hi⟩ := (change_ok _ _ _ _ _).1 hl
  obtain ⟨i, hi1, rfl⟩ := List.getElem_of_mem hm
  exact hb ((change_at h).1 (hi i hi1 (by omega))).1
theorem row_num {t : Tb} {col : Bs} {k : Nat} (h : SetK t col k) {r : List Vl} (hm : r ∈ t.rows) : ∃ hk : k < r.length, r.getD k zV = r[k] ∧ -1000000000 ≤ r[k].num ∧ r[k].num ≤ 1000000000 := by
  obtain ⟨hr, _, h2, h3⟩ := h
  obtain ⟨hl, hv⟩ := rowB_iff'.1 ((rightB_parts.1 hr).2.2 r hm)
  obtain ⟨hkl, _, _⟩ := colIx_some.1 h2
  have hk : k < r.length := by omega
  obtain ⟨h4, h5⟩ := hv k hk hkl
  rw [List.getD_eq_getElem?_getD, List.getElem?_eq_getElem hkl] at h3
  have := int_bd h5 (h4.trans h3)
  exact ⟨hk, by rw [List.getD_eq_getElem?_getD, List.getElem?_eq_getElem hk]; rfl, this.1, this.2.1⟩
theorem setV_same {t : Tb} {col op : Bs} {k : Nat} (h : SetK t col k) {r : List Vl} (hm : r ∈ t.rows) {y : Int} (he : setN op (r.getD k zV).num y = (r.getD k zV).num) : setV op k r y = r := by
  obtain ⟨hk, hg, _⟩ := row_num h hm
  unfold setV
  rw [he, hg]
  exact List.set_getElem_self hk
theorem sets_same {t : Tb} {col op : Bs} {k : Nat} {n : Int} (h : SetK t col k) (hop : op = [43] ∨ op = [45] ∨ op = [42]) (h1 : -1000000000 ≤ n) (h2 : n ≤ 1000000000) (he : ∀ x, setN op x n = x) : oneJ (jS col op (numA n)) [t] = some t := by
  rw [set_some h hop (kind_num h1 h2 t.cols) fun r hm => by
    obtain ⟨hk, hg, a, b⟩ := row_num h hm
    rw [arg_num, he, hg]
    exact ⟨a, b⟩]
  congr 1
  obtain ⟨cols, rows⟩ := t
  simp only
  congr 1
  refine (List.map_congr_left fun r hm => ?_).trans (List.map_id _)
  rw [arg_num]
  exact setV_same h hm (he _)
theorem sets_mul {t : Tb} {col : Bs} {k : Nat} (h : SetK t col k) : oneJ (jS col [42] (numA 1)) [t] = some t :=
  sets_same h (.inr (.inr rfl)) (by omega) (by omega) fun x => by simp [setN]
theorem sets_add0 {t : Tb} {col : Bs} {k : Nat} (h : SetK t col k) : oneJ (jS col [43] (numA 0)) [t] = some t :=
  sets_same h (.inl rfl) (by omega) (by omega) fun x => by simp [setN]
theorem sets_zero {t : Tb} {col : Bs} {k : Nat} (h : SetK t col k) : ∃ z, oneJ (jS col [45] ⟨col, zV⟩) [t] = some z ∧ z.cols = t.cols ∧ ∀ r ∈ z.rows, k < r.length ∧ (r.getD k zV).num = 0 := by
  refine ⟨_, set_some h (.inr (.inl rfl)) (kind_self h) fun r hm => ?_, rfl, fun r hm => ?_⟩
  · rw [arg_self h]
    simp [setN]
  · obtain ⟨x, hx, rfl⟩ := List.mem_map.1 hm
    obtain ⟨hk, hg, _⟩ := row_num h hx
    rw [arg_self h]
    unfold setV
    refine ⟨by simpa using hk, ?_⟩
    rw [List.getD_eq_getElem?_getD, List.getElem?_set_self hk]
    simp [setN]
theorem sets_more {t : Tb} {col : Bs} {k : Nat} {n : Int} (h : SetK t col k) (h1 : 0 ≤ n) (h2 : n ≤ 1000000000) : (∃ m, oneJ (jS col [43] (numA n)) [t] = some m ∧ oneJ (jS col [45] (numA n)) [m] = some t) ∨ (oneJ (jS col [43] (numA n)) [t] = none ∧ ∃ r ∈ t.rows, 1000000000 - n < (r.getD k zV).num) := by
  by_cases hb : ∃ r ∈ t.rows, 1000000000 - n < (r.getD k zV).num
  · right
    obtain ⟨r, hm, hr⟩ := hb
    refine ⟨set_out h hm ?_, r, hm, hr⟩
    rw [arg_num]
    simp only [setN, if_pos]
    omega
  · left
    have hin : ∀ r ∈ t.rows, (r.getD k zV).num ≤ 1000000000 - n := fun r hm => by
      refine Classical.byContradiction fun hc => hb ⟨r, hm, by omega⟩
    have hms := set_some (op := [43]) h (.inl rfl) (kind_num (by omega) h2 t.cols) fun r hm => by
      obtain ⟨hk, hg, a, b⟩ := row_num h hm
      have := hin r hm
      rw [arg_num]
      simp only [setN, if_pos]
      rw [hg] at this ⊢
      omega
    refine ⟨_, hms, ?_⟩
    have hK : SetK ⟨t.cols, t.rows.map fun r => setV [43] k r (argV (numA n) t.cols r).num⟩ col k := by
      obtain ⟨hr, ⟨k', hk'⟩, l, hl, he⟩ := (one_set rfl).1 hms
      have e : k' = k := by
        have := hk'.2.2.1
        have h3 : colIx t.cols col = some k' := this
        rw [h.2.2.1] at h3
        exact (Option.some.inj h3).symm
      subst e
      refine ⟨?_, h.2.1, h.2.2.1, h.2.2.2⟩
      rw [he]
      exact set_right hr hk' hl
    have hnum : ∀ r ∈ t.rows, (setV [43] k r n).getD k zV = ⟨(r.getD k zV).kind, (r.getD k zV).num + n, (r.getD k zV).word⟩ := fun r hm => by
      obtain ⟨hk, hg, _⟩ := row_num h hm
      unfold setV
      rw [List.getD_eq_getElem?_getD, List.getElem?_set_self hk]
      simp [setN]
    rw [set_some (op := [45]) hK (.inr (.inl rfl)) (kind_num (by omega) h2 _) fun r hm => by
      obtain ⟨x, hx, rfl⟩ := List.mem_map.1 hm
      obtain ⟨hk, hg, a, b⟩ := row_num h hx
      rw [arg_num, arg_num, hnum x hx]
      have e : setN [45] ((x.getD k zV).num + n) n = (x.getD k zV).num := by
        unfold setN
        rw [if_neg (by decide), if_pos rfl]
        omega
      simp only
      rw [e, hg]
      exact ⟨a, b⟩]
    congr 1
    obtain ⟨cols, rows⟩ := t
    simp only
    congr 1
    rw [List.map_map]
    refine (List.map_congr_left fun r hm => ?_).trans (List.map_id _)
    obtain ⟨hk, hg, _⟩ := row_num h hm
    simp only [Function.comp, arg_num, id]
    have hn := hnum r hm
    unfold setV at hn ⊢
    rw [hn, List.set_set]
    have e : setN [45] ((r.getD k zV).num + n) n = (r.getD k zV).num := by
      unfold setN
      rw [if_neg (by decide), if_pos rfl]
      omega
    simp only
    rw [e, hg]
    exact List.set_getElem_self hk
end Go.Proofs.YtomgnjgaafnkiaaGreatDoor
namespace Go.Proofs.YtomgnjgaafnkiaaGreatDoor
open Go.RowKit
attribute [local go_sem] bs_size bs_extract bs_append bs_toList
theorem num_any (n : Int) (w : World) : Calls Tryz.prog 29 #[.int .i64 n] w fun e w' => e = .returned (.agg #[.string ⟨#[]⟩, .int .i64 1, .int .i64 n, .string ⟨#[]⟩]) ∧ Keeps [] w w' := by
  go_enter Tryz.func29, Tryz.ntmps29
  go_wp2
  refine bodyPost_ret (v := .agg #[.string ⟨#[]⟩, .int .i64 1, .int .i64 n, .string ⟨#[]⟩]) (by simp [results, Tryz.results29, go_sem]) rfl ⟨rfl, ?_⟩
  repeat first | exact Keeps.refl _ _ | refine Keeps.alloc ?_ _ | refine Keeps.setCell ?_ (.inr (by simp)) _
/-- What a Set comes to. -/
def SetOut (R : Option Tb) (e : Ending) (w' : World) : Prop := match R with
  | none => e = .returned (.tuple #[.agg #[.slice none 0 0, .slice none 0 0], .bool false])
  | some u => ∃ A1 c1 A2 c2, e = .returned (.tuple #[.agg #[.slice A1 u.cols.length c1, .slice A2 u.rows.length c2], .bool true]) ∧ TabIn w' u A1 A2 c1 c2
set_option maxHeartbeats 4000000 in
set_option maxRecDepth 40000 in
theorem setc_any (col op : Bs) (right : Ar) (t : Tb) (A B : Option Addr) (c d : Nat) (bc : Nat) (w : World) (hE : OEnv w) (hT : TabIn w t A B c d) (hc : w.cell? ⟨bc, 0, none⟩ = some (.string (bs col))) :
    Calls Tryz.prog 28 #[.string (bs op), aAgg right, .agg #[.slice A t.cols.length c, .slice B t.rows.length d], .pointer (some ⟨bc, 0, none⟩)] w fun e w' => SetOut (oneJ (jS col op right) [t]) e w' ∧ Keeps [] w w' := by
  have HE := Lib.hid hE
  have HT := Lib.hid hT
  have hR : ∀ u, oneJ (jS col op right) [t] = some u → rightB u = true := fun u hu => one_right (.inr (.inl rfl)) hu
  have HONE : Hid (∀ W, Keeps [] w W → ∀ b n, Blk W b 9 #[.string (bs col)] → W.heap.size = n → Calls Tryz.prog 11 #[jAgg (jS col op right) none 0 none 0 0 (some ⟨b, 0, none⟩) 1, .slice (some ⟨n, 0, none⟩) 1 1] (W.alloc (.cells #[.slice A t.cols.length c, .slice B t.rows.length d] 25)) fun e w' => SetOut (oneJ (jS col op right) [t]) e w' ∧ Keeps [] W w') := Lib.hid fun W q b n hb hn => by
    have hrd : Rd W [] 1 (some ⟨b, 0, none⟩) (jS col op right).cols.length (strs (jS col op right).cols) := rd_blk hb _ rfl
    cases ho : oneJ (jS col op right) [t] with
    | none => exact oneN (.inr (.inl rfl)) ho (some ⟨b, 0, none⟩) 1 A B c d W n hn (HE.out.quiet q) hrd (Nat.le_refl _) (by show 1 ≤ _; omega) (HT.out.quiet q)
    | some u => exact oneT (.inr (.inl rfl)) ho (some ⟨b, 0, none⟩) 1 A B c d W n hn (HE.out.quiet q) hrd (Nat.le_refl _) (by show 1 ≤ _; omega) (HT.out.quiet q)
  have HR := Lib.hid hR
  obtain ⟨R, hRR⟩ : ∃ R, oneJ (jS col op right) [t] = R := ⟨_, rfl⟩
  rw [hRR] at HONE HR ⊢
  clear hRR hR hE hT
  obtain ⟨rc, rk, rn, rw'⟩ := right
  have hlt : bc < w.heap.size := World.block_lt_of_cell? _ _ hc
  have HO : Hid (∀ W, Keeps [] w W → ∀ b n, Blk W b 9 #[.string (bs col)] → W.heap.size = n → Calls Tryz.prog 11 #[.agg #[.int .i64 0, .int .i64 2, .slice none 0 0, .slice none 0 0, .slice (some ⟨b, 0, none⟩) 1 1, .string (bs op), .string (bs col), .int .i64 0, .int .i64 0, .string ⟨#[]⟩, .string (bs rc), .int .i64 rk, .int .i64 rn, .string (bs rw'), .int .i64 0], .slice (some ⟨n, 0, none⟩) 1 1] (W.alloc (.cells #[.slice A t.cols.length c, .slice B t.rows.length d] 25)) fun e w' => SetOut R e w' ∧ Keeps [] W w') := HONE
  clear HONE
  show Calls _ _ #[.string (bs op), .agg #[.string (bs rc), .int .i64 rk, .int .i64 rn, .string (bs rw')], .agg #[.slice A t.cols.length c, .slice B t.rows.length d], .pointer (some ⟨bc, 0, none⟩)] w _
  go_enter Tryz.func28, Tryz.ntmps28
  go_upto_region 1 with (fail)
  have HK0 := Lib.hid ((((Keeps.refl [] w).alloc (.cells #[.string (bs rc), .int .i64 rk, .int .i64 rn, .string (bs rw')] 34)).alloc (.cells #[.slice A t.cols.length c, .slice B t.rows.length d] 25)).alloc (.cells #[.slice none 0 0, .slice none 0 0] 25))
  have HB1 := Lib.hid (((Blk.new w 34 #[.string (bs rc), .int .i64 rk, .int .i64 rn, .string (bs rw')]).alloc (.cells #[.slice A t.cols.length c, .slice B t.rows.length d] 25)).alloc (.cells #[.slice none 0 0, .slice none 0 0] 25))
  have HB2 := Lib.hid ((Blk.new (w.alloc (.cells #[.string (bs rc), .int .i64 rk, .int .i64 rn, .string (bs rw')] 34)) 25 #[.slice A t.cols.length c, .slice B t.rows.length d]).alloc (.cells #[.slice none 0 0, .slice none 0 0] 25))
  have HB3 := Lib.hid (Blk.new ((w.alloc (.cells #[.string (bs rc), .int .i64 rk, .int .i64 rn, .string (bs rw')] 34)).alloc (.cells #[.slice A t.cols.length c, .slice B t.rows.length d] 25)) 25 #[.slice none 0 0, .slice none 0 0])
  simp only [size_alloc] at HB2 HB3
  obtain ⟨w3, hw3⟩ : ∃ x, (((w.alloc (.cells #[.string (bs rc), .int .i64 rk, .int .i64 rn, .string (bs rw')] 34)).alloc (.cells #[.slice A t.cols.length c, .slice B t.rows.length d] 25)).alloc (.cells #[.slice none 0 0, .slice none 0 0] 25)) = x := ⟨_, rfl⟩
  rw [hw3] at HK0 HB1 HB2 HB3 ⊢
  obtain ⟨ba, hba⟩ : ∃ b, w.heap.size = b := ⟨_, rfl⟩
  have HLB : Hid (w.heap.size ≤ ba + 1 + 1) := Lib.hid (by omega)
  rw [hba] at HB1 HB2 HB3 ⊢
  have hc3 : w3.cell? ⟨bc, 0, none⟩ = some (.string (bs col)) := HK0.out.cell_of hc (by simp)
  have l3 : bc < w3.heap.size := World.block_lt_of_cell? _ _ hc3
  have a0 : w3.cell? ⟨ba, 0, none⟩ = some (.string (bs rc)) := HB1.out.cell 0
  have a1 : w3.cell? ⟨ba, 1, none⟩ = some (.int .i64 rk) := HB1.out.cell 1
  have a2 : w3.cell? ⟨ba, 2, none⟩ = some (.int .i64 rn) := HB1.out.cell 2
  have a3 : w3.cell? ⟨ba, 3, none⟩ = some (.string (bs rw')) := HB1.out.cell 3
  have la : ba < w3.heap.size := HB1.out.lt
  have t0 : w3.cell? ⟨ba + 1, 0, none⟩ = some (.slice A t.cols.length c) := HB2.out.cell 0
  have t1 : w3.cell? ⟨ba + 1, 1, none⟩ = some (.slice B t.rows.length d) := HB2.out.cell 1
  have lt : ba + 1 < w3.heap.size := HB2.out.lt
  clear hw3 hba hc hlt
  go_wp2_with fail
  clear hc3 l3 a0 a1 a2 a3 la t0 t1 lt
  have hk4 : Keeps [] w3 (w3.alloc (.cells #[.string (bs col)] 9)) := (Keeps.refl _ _).alloc _
  have HW := Lib.hid (HO.out _ (HK0.out.trans hk4) w3.heap.size (w3.heap.size + 1) (Blk.new _ _ _) (size_alloc _ _))
  have HK4 := Lib.hid hk4
  clear hk4
  cases R with
  | none =>
    have HE1 : Hid (Calls Tryz.prog 11 #[.agg #[.int .i64 0, .int .i64 2, .slice none 0 0, .slice none 0 0, .slice (some ⟨w3.heap.size, 0, none⟩) 1 1, .string (bs op), .string (bs col), .int .i64 0, .int .i64 0, .string ⟨#[]⟩, .string (bs rc), .int .i64 rk, .int .i64 rn, .string (bs rw'), .int .i64 0], .slice (some ⟨w3.heap.size + 1, 0, none⟩) 1 1] ((w3.alloc (.cells #[.string (bs col)] 9)).alloc (.cells #[.slice A t.cols.length c, .slice B t.rows.length d] 25)) fun e w' => e = .returned (.tuple #[.agg #[.slice none 0 0, .slice none 0 0], .bool false]) ∧ Keeps [] (w3.alloc (.cells #[.string (bs col)] 9)) w') := HW
    refine HE1.out.mono ?_
    rintro e w5 ⟨rfl, hk5⟩
    have HB5 := Lib.hid ((HB3.out.keep HK4.out (by simp)).keep hk5 (by simp))
    have c0 : w5.cell? ⟨ba + 1 + 1, 0, none⟩ = some (.slice none 0 0) := HB5.out.cell 0
    have c1 : w5.cell? ⟨ba + 1 + 1, 1, none⟩ = some (.slice none 0 0) := HB5.out.cell 1
    have f0 := HB5.out.frozen 0
    have f1 := HB5.out.frozen 1
    have HK5 := Lib.hid ((HK0.out.trans HK4.out).trans hk5)
    clear hk5
    go_wp2
    refine bodyPost_ret (v := .tuple #[.agg #[.slice none 0 0, .slice none 0 0], .bool false]) (by simp [results, Tryz.results28, go_sem, c0, c1]) rfl ⟨rfl, ?_⟩
    exact (HK5.out.setCell (.inr HLB.out) _).setCell (.inr HLB.out) _
  | some u =>
    have HE1 : Hid (Calls Tryz.prog 11 #[.agg #[.int .i64 0, .int .i64 2, .slice none 0 0, .slice none 0 0, .slice (some ⟨w3.heap.size, 0, none⟩) 1 1, .string (bs op), .string (bs col), .int .i64 0, .int .i64 0, .string ⟨#[]⟩, .string (bs rc), .int .i64 rk, .int .i64 rn, .string (bs rw'), .int .i64 0], .slice (some ⟨w3.heap.size + 1, 0, none⟩) 1 1] ((w3.alloc (.cells #[.string (bs col)] 9)).alloc (.cells #[.slice A t.cols.length c, .slice B t.rows.length d] 25)) fun e w' => (∃ A1 c1 A2 c2, e = .returned (.tuple #[.agg #[.slice A1 u.cols.length c1, .slice A2 u.rows.length c2], .bool true]) ∧ TabIn w' u A1 A2 c1 c2) ∧ Keeps [] (w3.alloc (.cells #[.string (bs col)] 9)) w') := HW
    have HRU := Lib.hid (HR.out u rfl)
    refine HE1.out.mono ?_
    rintro e w5 ⟨⟨A1, c1, A2, c2, rfl, ht5⟩, hk5⟩
    have HB5 := Lib.hid ((HB3.out.keep HK4.out (by simp)).keep hk5 (by simp))
    have c0 : w5.cell? ⟨ba + 1 + 1, 0, none⟩ = some (.slice none 0 0) := HB5.out.cell 0
    have c1' : w5.cell? ⟨ba + 1 + 1, 1, none⟩ = some (.slice none 0 0) := HB5.out.cell 1
    have f0 := HB5.out.frozen 0
    have f1 := HB5.out.frozen 1
    have HK5 := Lib.hid ((HK0.out.trans HK4.out).trans hk5)
    have HTB := Lib.hid ht5
    clear hk5 ht5
    go_wp2
    refine bodyPost_ret (v := .tuple #[.agg #[.slice A1 u.cols.length c1, .slice A2 u.rows.length c2], .bool true]) (by simp [results, Tryz.results28, go_sem, c0, c1']) rfl ⟨?_, ?_⟩
    · have his : TbIs w5 (.slice A1 u.cols.length c1, .slice A2 u.rows.length c2) u := ⟨⟨A1, c1, rfl, HTB.out.cc, HTB.out.cols⟩, ⟨A2, c2, rfl, HTB.out.cd, HTB.out.rows⟩⟩
      exact ⟨_, _, _, _, rfl, TabIn.of_is (his.far HB5.out (((Keeps.refl [ba + 1 + 1] w5).setCell (.inl (by simp)) _).setCell (.inl (by simp)) _) (row_pos HRU.out)) HTB.out.tbB⟩
    · exact (HK5.out.setCell (.inr HLB.out) _).setCell (.inr HLB.out) _
end Go.Proofs.YtomgnjgaafnkiaaGreatDoor
namespace Go.Proofs.YtomgnjgaafnkiaaGreatDoor
open Go.RowKit
attribute [local go_sem] bs_size bs_extract bs_append bs_toList
theorem sets3_any (nm : Bs) (d : Cl) (b : Nat) (w : World) (hb : w.cell? ⟨b, 0, none⟩ = some (.string (bs nm))) :
    Calls Tryz.prog 30 #[cAgg d, .pointer (some ⟨b, 0, none⟩)] w fun e w' => e = .returned (.bool (d.name == nm)) ∧ Keeps [] w w' := by
  have hlt := World.block_lt_of_cell? _ _ hb
  have hb' : (w.alloc (.cells #[.string (bs d.name), .int .i64 d.kind] 39)).cell? ⟨b, 0, none⟩ = some (.string (bs nm)) := ((Keeps.refl [] w).alloc _).cell_of hb (by simp)
  have HK := Lib.hid ((Keeps.refl [] w).alloc (.cells #[.string (bs d.name), .int .i64 d.kind] 39))
  show Calls _ _ #[.agg #[.string (bs d.name), .int .i64 d.kind], .pointer (some ⟨b, 0, none⟩)] w _
  go_enter Tryz.func30, Tryz.ntmps30
  go_wp2
  go_ret
  exact ⟨rfl, HK.out⟩
theorem sets4_any (r : List Vl) (k bk : Nat) (A : Option Addr) (c : Nat) (w : World) (hR : Rd w [] 3 A r.length (vsCells r)) (hk : k < r.length) (hb : w.cell? ⟨bk, 0, none⟩ = some (.int .i64 (k : Int))) :
    Calls Tryz.prog 32 #[.slice A r.length c, .pointer (some ⟨bk, 0, none⟩)] w fun e w' => e = .returned (.bool (r[k].num != 0)) ∧ Keeps [] w w' := by
  obtain ⟨b, o, rfl, _, _, hcs⟩ := hR.open' (by omega) (by omega)
  have d1 := hcs _ _ (vsCells_at r k hk).2.1
  rw [← Nat.add_assoc] at d1
  have hi1 : (0 : Int) ≤ (k : Int) := by omega
  have hi2 : (k : Int) < (r.length : Int) := by omega
  clear hcs hR
  generalize r[k].num = x at *
  go_enter Tryz.func32, Tryz.ntmps32
  go_wp2
  go_ret
  exact ⟨rfl, Keeps.refl _ _⟩
theorem sets5_any (r : List Vl) (k bk bn : Nat) (n : Int) (h0 : 0 ≤ n) (h1 : n ≤ 1000000000) (A : Option Addr) (c : Nat) (w : World) (hR : Rd w [] 3 A r.length (vsCells r)) (hk : k < r.length) (hb : w.cell? ⟨bk, 0, none⟩ = some (.int .i64 (k : Int))) (hn : w.cell? ⟨bn, 0, none⟩ = some (.int .i64 n)) :
    Calls Tryz.prog 34 #[.slice A r.length c, .pointer (some ⟨bk, 0, none⟩), .pointer (some ⟨bn, 0, none⟩)] w fun e w' => e = .returned (.bool (decide (1000000000 - n < r[k].num))) ∧ Keeps [] w w' := by
  obtain ⟨b, o, rfl, _, _, hcs⟩ := hR.open' (by omega) (by omega)
  have d1 := hcs _ _ (vsCells_at r k hk).2.1
  rw [← Nat.add_assoc] at d1
  have hi1 : (0 : Int) ≤ (k : Int) := by omega
  have hi2 : (k : Int) < (r.length : Int) := by omega
  have hsub : IntKind.i64.wrap (1000000000 - n) = 1000000000 - n := IntWalk.i64_in _ (by omega)
  clear hcs hR
  generalize r[k].num = x at *
  go_enter Tryz.func34, Tryz.ntmps34
  go_wp2
  go_quiet (fail)
  go_wp2
  go_ret
  exact ⟨rfl, (Keeps.refl _ _).drewN _⟩
/-- A table in memory, where a box of two empty slices that was made before it is filled. -/
theorem tabIn_box {w : World} {g : Nat} {ty : TypeId} {u : Tb} {A B : Option Addr} {c d : Nat} {a b : Value} (hb : Blk w g ty #[.slice none 0 0, .slice none 0 0]) (hr : rightB u = true) (h : TabIn w u A B c d) : TabIn ((w.setCell ⟨g, 0, none⟩ a).setCell ⟨g, 1, none⟩ b) u A B c d :=
  TabIn.of_is (TbIs.far hb (((Keeps.refl [g] w).setCell (.inl (by simp)) _).setCell (.inl (by simp)) _) (row_pos hr) ⟨⟨A, c, rfl, h.cc, h.cols⟩, ⟨B, d, rfl, h.cd, h.rows⟩⟩) h.tbB
/-- pick, as numbers. -/
def pickN (a : Int) (n : Nat) : Nat := (a.emod 18446744073709551616).toNat % n
theorem pickN_lt (a : Int) {n : Nat} (h : 0 < n) : pickN a n < n := Nat.mod_lt _ h
theorem pick_val (a : Int) (n : Nat) (h1 : n ≤ 4294967296) (h0 : 0 < n) : wrap64 ((IntKind.u64.wrap a).tmod (n : Int)) = (pickN a n : Int) := by
  have e : IntKind.u64.wrap a = ((a.emod 18446744073709551616).toNat : Int) := by
    rw [IntKind.wrap_u64]
    have := Int.emod_nonneg a (show (18446744073709551616 : Int) ≠ 0 by decide)
    exact (Int.toNat_of_nonneg this).symm
  have hl := pickN_lt a h0
  rw [e, Int.tmod_eq_emod_of_nonneg (Int.natCast_nonneg _)]
  show wrap64 ((pickN a n : Nat) : Int) = _
  exact IntWalk.wrap64_in _ ⟨by omega, by omega⟩

set_option maxRecDepth 100000 in
theorem pick_any (a : Int) (n : Nat) (h0 : 0 < n) (h1 : n ≤ 4294967296) (w : World) :
    Calls Tryz.prog 33 #[.int .i64 a, .int .i64 (n : Int)] w fun e w' => e = .returned (.int .i64 (pickN a n)) ∧ w = w' := by
  have hz : ¬ (n : Int) = 0 := by omega
  have hv := Lib.hid (pick_val a n h1 h0)
  go_enter Tryz.func33, Tryz.ntmps33
  go_wp2
  go_ret
  exact ⟨by rw [← hv.out]; rfl, rfl⟩
end Go.Proofs.YtomgnjgaafnkiaaGreatDoor
