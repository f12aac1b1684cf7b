/- ops.changed. Jobs as plain data: the laws. No program in sight. -/
import Derived.Test.YtpfkjejknlkkoaaGreatDoorOsoM23
import Derived.Test.YtpfkjejknlkkoaaGreatDoorOsoM14
import Derived.Test.YtpfkjejknlkkoaaGreatDoorOsoM16
import Derived.Test.YtpfkjejknlkkoaaGreatDoorOsoM5
import Derived.Test.YtpfkjejknlkkoaaGreatDoorOsoM3
set_option linter.unusedSimpArgs false
set_option linter.unusedVariables false
namespace Go.Proofs.YtpfkjejknlkkoaaGreatDoor
open Go.RowKit Go.BigFrame
attribute [local go_sem] bs_size bs_extract bs_append bs_toList
attribute [local go_sem] KW.cell
theorem changeGo_at (j : Jb) (a : Tb) (rs : List (List Vl)) (m : Nat) (h : m < rs.length) (out : List (List Vl)) : changeGo j a (rs.drop m) out = match changeRow j a rs[m] with
  | none => none
  | some x => changeGo j a (rs.drop (m + 1)) (out ++ [x]) := by
 rw [List.drop_eq_getElem_cons h]
 conv => lhs; unfold changeGo
 cases changeRow j a rs[m] <;> rfl
theorem changeRow_at {j : Jb} {a : Tb} {k : Nat} (hk : colIx a.cols (j.cols.headD []) = some k) (r : List Vl) : changeRow j a r = if 1000000000 < setN j.op (argV j.left a.cols r).num (argV j.right a.cols r).num ∨ setN j.op (argV j.left a.cols r).num (argV j.right a.cols r).num < -1000000000 then none else some (r.set k ⟨(r.getD k zV).kind, setN j.op (argV j.left a.cols r).num (argV j.right a.cols r).num, (r.getD k zV).word⟩) := by
 unfold changeRow
 simp only
 split
 ·rfl
 ·rw [hk]
theorem vs_set (r : List Vl) (k : Nat) (h : k < r.length) (n : Int) : vsCells (r.set k ⟨r[k].kind, n, r[k].word⟩) = (vsCells r).set (k * 3 + 1) (.int .i64 n) := by
 induction r generalizing k with
 | nil => simp at h
 | cons p r ih =>
  rcases k with _ | k
  ·simp [vsCells, vCells]
  ·have hk' : k < r.length := by simpa using h
   have := ih k hk'
   simp only [List.set_cons_succ, List.getElem_cons_succ]
   show vCells p ++ vsCells (r.set k ⟨r[k].kind, n, r[k].word⟩) = (vCells p ++ vsCells r).set ((k + 1) * 3 + 1) (.int .i64 n)
   rw [this, show (k + 1) * 3 + 1 = (k * 3 + 1) + 1 + 1 + 1 by omega]
   simp [vCells]
theorem own_store {w : World} {base g n cap j : Nat} {e : TypeId} {size : Nat} {xs : List Value} {u : Value} (h : w.ownsRow base e size (.slice (some ⟨g, 0, none⟩) n cap) n xs) : (w.setCell ⟨g, j, none⟩ u).ownsRow base e size (.slice (some ⟨g, 0, none⟩) n cap) n (xs.set j u) := by
 refine ⟨by rw [List.length_set]; exact h.1, ?_⟩
 rcases h.2 with ⟨hv, _⟩ | ⟨g', cap', cur, hv, hb, hh, hc, hm, hs, ht⟩
 ·cases hv
 ·injection hv with e1 e2 e3
  injection e1 with e1
  injection e1 with e1
  subst e1 e3
  have hblk : Blk w g e cur := hh
  refine .inr ⟨g, cap, cur.setIfInBounds j u, rfl, hb, hblk.set j u, hc, hm, by simpa using hs, ?_⟩
  rw [← ht]
  simp only [Array.toList_setIfInBounds]
  rw [List.take_set]
theorem own_cellF {w : World} {base g n cap : Nat} {e : TypeId} {size : Nat} {xs : List Value} (h : w.ownsRow base e size (.slice (some ⟨g, 0, none⟩) n cap) n xs) (i : Nat) : w.frozen? ⟨g, i, none⟩ = false := by
 rcases h.2 with ⟨hv, _⟩ | ⟨g', cap', cur, hv, hb, hh, hc, hm, hs, ht⟩
 ·cases hv
 ·injection hv with e1 e2 e3
  injection e1 with e1
  injection e1 with e1
  subst e1
  have hblk : Blk w g e cur := hh
  exact hblk.frozen i
def ChgOut (R : Option (List (List Vl))) (e : Ending) (w' : World) : Prop := match R with
 | none => e = .returned (.tuple #[.slice none 0 0, .iface 71 (.int .i64 2)])
 | some l => ∃ g, e = .returned (.tuple #[.slice (some ⟨g, 0, none⟩) 1 1, .nilIface]) ∧ RdTabs w' (some ⟨g, 0, none⟩) [l]
theorem mul_bd {x y : Int} (h1 : -1000000000 ≤ x) (h2 : x ≤ 1000000000) (h3 : -1000000000 ≤ y) (h4 : y ≤ 1000000000) : -1000000000000000000 ≤ x * y ∧ x * y ≤ 1000000000000000000 := by
 have h5 : (x * y).natAbs ≤ 1000000000 * 1000000000 := by
  rw [Int.natAbs_mul]
  exact Nat.mul_le_mul (by omega) (by omega)
 omega
theorem size_set0 (w : World) (p : Addr) (v : Value) : (w.setCell p v).heap.size = w.heap.size := by simp [World.setCell]
theorem heap_set_new (w : World) (p : Addr) (v : Value) (o : Obj) : ((w.setCell p v).alloc o).heap[w.heap.size]? = some o := by
 have h := heap_alloc_new (w.setCell p v) o
 rwa [size_set0] at h
set_option maxHeartbeats 8000000 in
set_option maxRecDepth 40000 in
theorem changed_add (j : Jb) (t : Tb) (k : Nat) (nm : Bs) (A B : Option Addr) (c d : Nat) (Ao : Option Addr) (co : Nat) (Ai : Option Addr) (ni ci : Nat) (Ac : Option Addr) (cc : Nat) (w : World) (hT : TabIn w t A B c d) (hcols : j.cols = [nm]) (hk : colIx t.cols nm = some k) (hcR : Rd w [] 1 Ac 1 (strs [nm]))
  (hrl : ∀ r ∈ t.rows, r.length = t.cols.length) (hal : ∀ r ∈ t.rows, argOk j.left t.cols r) (har : ∀ r ∈ t.rows, argOk j.right t.cols r)
  (hxl : ∀ r ∈ t.rows, -1000000000 ≤ (argV j.left t.cols r).num ∧ (argV j.left t.cols r).num ≤ 1000000000) (hxr : ∀ r ∈ t.rows, -1000000000 ≤ (argV j.right t.cols r).num ∧ (argV j.right t.cols r).num ≤ 1000000000) (hp : j.op = [43]) :
  Calls Tryz.prog 65 #[jAgg j Ao co Ai ni ci Ac cc, .agg #[.slice A t.cols.length c, .slice B t.rows.length d]] w fun e w' => ChgOut (changeGo j t t.rows []) e w' ∧ Keeps [] w w' := by
 obtain ⟨ir, hir, hrz0, hrz1, hrz2⟩ := info_parts rinfo
 have hkl : k < t.cols.length := (List.findIdx?_eq_some_iff_getElem.1 hk).1
 have hf := fun W (q : Keeps [] w W) => find_any t.cols nm A c W (hT.cols.keep q) hT.ln
 rw [hk] at hf
 have HF : Hid (∀ W, Keeps [] w W → Calls Tryz.prog 66 #[.slice A t.cols.length c, .string (bs nm)] W fun e w' => e = .returned (.int .i64 (k : Int)) ∧ Keeps [] W w') := Lib.hid hf
 have HAT := Lib.hid (fun m (h : m < t.rows.length) out => changeGo_at j t t.rows m h out)
 have HRW := Lib.hid (fun r => changeRow_at (j := j) (a := t) (k := k) (by rw [hcols]; exact hk) r)
 have HNL : Hid (∀ out, changeGo j t [] out = some out) := Lib.hid fun out => rfl
 generalize changeGo j t = CG at *
 generalize changeRow j t = CR at *
 have HT := Lib.hid hT
 have HAL := Lib.hid hal
 have HAR := Lib.hid har
 have HXL := Lib.hid hxl
 have HXR := Lib.hid hxr
 have HRL := Lib.hid hrl
 have hlm := hT.lm
 have hln := hT.ln
 clear hT hal har hxl hxr hrl hf hk
 obtain ⟨at_, code, outs, js, cols, op, ⟨lc, lk, ln, lw⟩, ⟨rc, rk, rn, rw'⟩, retry⟩ := j
 obtain ⟨no, hno⟩ : ∃ n, outs.length = n := ⟨_, rfl⟩
 simp only at hcols
 show Calls _ _ #[.agg #[.int .i64 at_, .int .i64 code, .slice Ao outs.length co, .slice Ai ni ci, .slice Ac cols.length cc, .string (bs op), .string (bs lc), .int .i64 lk, .int .i64 ln, .string (bs lw), .string (bs rc), .int .i64 rk, .int .i64 rn, .string (bs rw'), .int .i64 retry], .agg #[.slice A t.cols.length c, .slice B t.rows.length d]] w _
 rw [hno, show cols.length = 1 by rw [hcols]; rfl]
 have hOP : op = [43] ∨ True := .inr trivial
 subst hp
 have HSN : Hid (∀ x y, setN [43] x y = x + y) := Lib.hid (fun x y => by unfold setN; rfl)
 skip
 obtain ⟨b4, o4, hAc, _, hb4, hcs4⟩ := hcR.open' (by omega) (by decide)
 have d4 : w.cell? ⟨b4, o4, none⟩ = some (.string (bs nm)) := hcs4 0 _ rfl
 subst hAc
 have HK0 : Hid (Keeps [] w ((w.alloc (.cells #[.int .i64 at_, .int .i64 code, .slice Ao no co, .slice Ai ni ci, .slice (some ⟨b4, o4, none⟩) 1 cc, .string (bs [43]), .string (bs lc), .int .i64 lk, .int .i64 ln, .string (bs lw), .string (bs rc), .int .i64 rk, .int .i64 rn, .string (bs rw'), .int .i64 retry] 36)).alloc (.cells #[.slice A t.cols.length c, .slice B t.rows.length d] 25))) := Lib.hid (((Keeps.refl _ _).alloc _).alloc _)
 have HBX := Lib.hid (Blk.alloc (Blk.new w 36 #[.int .i64 at_, .int .i64 code, .slice Ao no co, .slice Ai ni ci, .slice (some ⟨b4, o4, none⟩) 1 cc, .string (bs [43]), .string (bs lc), .int .i64 lk, .int .i64 ln, .string (bs lw), .string (bs rc), .int .i64 rk, .int .i64 rn, .string (bs rw'), .int .i64 retry]) (.cells #[.slice A t.cols.length c, .slice B t.rows.length d] 25))
 have HBT := Lib.hid (Blk.new (w.alloc (.cells #[.int .i64 at_, .int .i64 code, .slice Ao no co, .slice Ai ni ci, .slice (some ⟨b4, o4, none⟩) 1 cc, .string (bs [43]), .string (bs lc), .int .i64 lk, .int .i64 ln, .string (bs lw), .string (bs rc), .int .i64 rk, .int .i64 rn, .string (bs rw'), .int .i64 retry] 36)) 25 #[.slice A t.cols.length c, .slice B t.rows.length d])
 rw [size_alloc] at HBT
 have HD4 := Lib.hid (HK0.out.cell_of d4 (by simp))
 clear hcR hcs4 d4 hcols hno hOP
 go_enter Tryz.func65, Tryz.ntmps65
 go_wp2
 obtain ⟨w2, hw2⟩ : ∃ w2, ((w.alloc (.cells #[.int .i64 at_, .int .i64 code, .slice Ao no co, .slice Ai ni ci, .slice (some ⟨b4, o4, none⟩) 1 cc, .string (bs [43]), .string (bs lc), .int .i64 lk, .int .i64 ln, .string (bs lw), .string (bs rc), .int .i64 rk, .int .i64 rn, .string (bs rw'), .int .i64 retry] 36)).alloc (.cells #[.slice A t.cols.length c, .slice B t.rows.length d] 25)) = w2 := ⟨_, rfl⟩
 rw [hw2] at HK0 HBX HBT HD4 ⊢
 obtain ⟨bx, hbx⟩ : ∃ bx, w.heap.size = bx := ⟨_, rfl⟩
 rw [hbx] at HBX HBT ⊢
 clear hw2 hbx
 have HF2 : Hid (∀ W, Keeps [] w2 W → Calls Tryz.prog 66 #[.slice A t.cols.length c, .string (bs nm)] W fun e w' => e = .returned (.int .i64 (k : Int)) ∧ Keeps [] W w') := Lib.hid (fun W q => HF.out W (HK0.out.trans q))
 have y4 : w2.cell? ⟨bx, 4, none⟩ = some (.slice (some ⟨b4, o4, none⟩) 1 cc) := HBX.out.cell 4
 have y0 : w2.cell? ⟨bx + 1, 0, none⟩ = some (.slice A t.cols.length c) := HBT.out.cell 0
 have y8 := HD4.out
 have l1 : bx < w2.heap.size := HBX.out.lt
 have l2 : bx + 1 < w2.heap.size := HBT.out.lt
 have l3 : b4 < w2.heap.size := World.block_lt_of_cell? _ _ y8
 refine wp_region_keeps (by kernel_rfl) (by kernel_rfl) ?_
 repeat (go_big_quiet_step (first | with_reducible exact KW.of HF2.out _))
 refine wpQuiet_nil ?_
 intro w3 hk3
 have HK3 := Lib.hid hk3
 have HKB := Lib.hid (HK0.out.trans hk3)
 have HBX3 := Lib.hid (HBX.out.keep hk3 (by simp))
 have HBT3 := Lib.hid (HBT.out.keep hk3 (by simp))
 clear hk3 y4 y0 y8 l1 l2 l3 HF2 HF HBX HBT HD4
 have y1 : w3.cell? ⟨bx + 1, 1, none⟩ = some (.slice B t.rows.length d) := HBT3.out.cell 1
 go_wp2
 clear y1
 go_loopw [7, 23] (fun u i wx => ∃ (m : Nat) (v : Value) (out : List (List Vl)), v = u ∧ m ≤ t.rows.length ∧ i = .int .i64 m ∧ out.length = m ∧ Hid (Rws wx w3.heap.size v out) ∧ Hid (CG (t.rows.drop m) out = CG t.rows []) ∧ Keeps [] w3 wx) (fun _ i _ => t.rows.length - (intOf i).toNat)
 case atStart => exact ⟨0, _, [], rfl, Nat.zero_le _, rfl, rfl, Rws.nil _ _, Lib.hid rfl, Keeps.refl _ _⟩
 case round =>
  obtain ⟨m, v, out, rfl, hm, rfl, hol, HG, HCG, hk⟩ := hrel
  have HOL := Lib.hid hol
  have HK := Lib.hid hk
  have HKW := Lib.hid (HKB.out.trans hk)
  clear hk hol
  by_cases hlt : m < t.rows.length
  ·obtain ⟨us, hul, hur, hui⟩ := HT.out.rows
   have hux : m < us.length := by omega
   have hrw := hui m hux hlt
   obtain ⟨b7, o7, hBe, _, hb7, hcs⟩ := hur.open' (by omega) (by omega)
   have d7 := hcs (m * 1) us[m] (by rw [Nat.mul_one]; exact List.getElem?_eq_getElem hux)
   rw [Nat.mul_one] at d7
   have hmem : t.rows[m] ∈ t.rows := List.getElem_mem hlt
   have hst := HAT.out m hlt out
   rw [HCG.out, HRW.out] at hst
   have hrr := HRL.out _ hmem
   obtain ⟨r, hr⟩ : ∃ r, t.rows[m] = r := ⟨_, rfl⟩
   rw [hr] at hrw hmem hrr hst
   obtain ⟨Ar, cr, hu, hcr, hrd⟩ := hrw
   rw [hu] at d7
   have d8 := HKW.out.cell_of d7 (by simp)
   subst hBe
   have HRD := Lib.hid hrd
   have HAA0 : Hid (∀ W, Keeps [] wr W → Calls Tryz.prog 64 #[.agg #[.string (bs lc), .int .i64 lk, .int .i64 ln, .string (bs lw)], .slice A t.cols.length c, .slice Ar r.length cr] W fun e w' => e = .returned (vAgg (argV ⟨lc, ⟨lk, ln, lw⟩⟩ t.cols r)) ∧ Keeps [] W w') := Lib.hid fun W q => arg_any ⟨lc, ⟨lk, ln, lw⟩⟩ t.cols r A Ar c cr W (HT.out.cols.keep (HKW.out.trans q)) HT.out.ln (hrd.keep (HKW.out.trans q)) (HAL.out r hmem)
   have HAB0 : Hid (∀ W, Keeps [] wr W → Calls Tryz.prog 64 #[.agg #[.string (bs rc), .int .i64 rk, .int .i64 rn, .string (bs rw')], .slice A t.cols.length c, .slice Ar r.length cr] W fun e w' => e = .returned (vAgg (argV ⟨rc, ⟨rk, rn, rw'⟩⟩ t.cols r)) ∧ Keeps [] W w') := Lib.hid fun W q => arg_any ⟨rc, ⟨rk, rn, rw'⟩⟩ t.cols r A Ar c cr W (HT.out.cols.keep (HKW.out.trans q)) HT.out.ln (hrd.keep (HKW.out.trans q)) (HAR.out r hmem)
   have hb1 := HXL.out r hmem
   have hb2 := HXR.out r hmem
   try simp only at hb1
   try simp only at hb2
   try simp only at hst
   obtain ⟨X, hX⟩ : ∃ X, argV ⟨lc, ⟨lk, ln, lw⟩⟩ t.cols r = X := ⟨_, rfl⟩
   obtain ⟨Y, hY⟩ : ∃ Y, argV ⟨rc, ⟨rk, rn, rw'⟩⟩ t.cols r = Y := ⟨_, rfl⟩
   rw [hX] at HAA0 hb1 hst
   rw [hY] at HAB0 hb2 hst
   obtain ⟨xk, xn, xw⟩ := X
   obtain ⟨yk, yn, yw⟩ := Y
   have HAA : Hid (∀ W, Keeps [] wr W → Calls Tryz.prog 64 #[.agg #[.string (bs lc), .int .i64 lk, .int .i64 ln, .string (bs lw)], .slice A t.cols.length c, .slice Ar r.length cr] W fun e w' => e = .returned (.agg #[.int .i64 xk, .int .i64 xn, .string (bs xw)]) ∧ Keeps [] W w') := HAA0
   have HAB : Hid (∀ W, Keeps [] wr W → Calls Tryz.prog 64 #[.agg #[.string (bs rc), .int .i64 rk, .int .i64 rn, .string (bs rw')], .slice A t.cols.length c, .slice Ar r.length cr] W fun e w' => e = .returned (.agg #[.int .i64 yk, .int .i64 yn, .string (bs yw)]) ∧ Keeps [] W w') := HAB0
   obtain ⟨hb1a, hb1b⟩ := hb1
   obtain ⟨hb2a, hb2b⟩ := hb2
   try simp only at hb1a hb1b hb2a hb2b
   try simp only at hst
   have HST := Lib.hid hst
   have hrk : k < r.length := by rw [hrr]; exact hkl
   have hr1 : 1 ≤ r.length := by omega
   have hr2 : r.length ≤ 4294967296 := by rw [hrr]; exact hln
   have hpm : -1000000000000000000 ≤ xn * yn ∧ xn * yn ≤ 1000000000000000000 := mul_bd hb1a hb1b hb2a hb2b
   have hp1 := hpm.1
   have hp2 := hpm.2
   have z3 := (HBX3.out.keep HK.out (by simp)).cell 6
   obtain ⟨y0, y1, y2, y3, y4, y5, y6, y7, y8, y9, y10, y11, y12, y13, y14⟩ := box15 (HBX3.out.keep HK.out (by simp))
   have x0 : wr.cell? ⟨bx + 1, 0, none⟩ = some (.slice A t.cols.length c) := (HBT3.out.keep HK.out (by simp)).cell 0
   have l1 : bx < wr.heap.size := (HBX3.out.keep HK.out (by simp)).lt
   have l2 : bx + 1 < wr.heap.size := (HBT3.out.keep HK.out (by simp)).lt
   clear hst hX hY hu hul hur hui hcs d7 hrd hpm hmem HAA0 HAB0 z3 hrr hr hcr
   have hfx : ∀ W, (Instr.field 32 (.agg #[.int .i64 xk, .int .i64 xn, .string (bs xw)]) 1).run Tryz.prog W = .ok (.int .i64 xn) W := fun W => by rfl
   have hfy : ∀ W, (Instr.field 32 (.agg #[.int .i64 yk, .int .i64 yn, .string (bs yw)]) 1).run Tryz.prog W = .ok (.int .i64 yn) W := fun W => by rfl
   go_wp2
   refine wp_region_keeps (by kernel_rfl) (by kernel_rfl) ?_
   repeat (go_big_quiet_step (first | with_reducible exact KW.of HAA.out _ | with_reducible exact KW.of HAB.out _))
   refine wpQuiet_nil ?_
   intro w5 hk5
   have HK5 := Lib.hid hk5
   clear y0 y1 y2 y3 y4 y6 y7 y8 y9 y10 y11 y12 y13 y14 x0 l1 l2 d8
   replace y5 := hk5.cell_of y5 (by simp)
   clear hk5
   obtain ⟨N, hN⟩ : ∃ N, xn + yn = N := ⟨_, rfl⟩
   have HN := Lib.hid hN
   have HSX : Hid (setN [43] xn yn = N) := Lib.hid ((HSN.out xn yn).trans hN)
   rw [HSX.out] at HST
   by_cases hbig : 1000000000 < N
   ·have HFF : Hid (CG t.rows [] = none) := Lib.hid (by rw [HST.out, if_pos (.inl hbig)])
    rw [hN.symm] at hbig
    clear hN
    go_wp2
    go_ret2
    exact ⟨by rw [HFF.out]; rfl, HKW.out.trans HK5.out⟩
   ·by_cases hsm : N < -1000000000
    ·have HFF : Hid (CG t.rows [] = none) := Lib.hid (by rw [HST.out, if_pos (.inr hsm)])
     rw [hN.symm] at hbig hsm
     clear hN
     go_wp2
     go_ret2
     exact ⟨by rw [HFF.out]; rfl, HKW.out.trans HK5.out⟩
    ·have hgd : r.getD k zV = r[k] := by rw [List.getD_eq_getElem?_getD, List.getElem?_eq_getElem hrk]; rfl
     have HFF : Hid (CG t.rows [] = CG (t.rows.drop (m + 1)) (out ++ [r.set k ⟨r[k].kind, N, r[k].word⟩])) := Lib.hid (by
      rw [HST.out, if_neg (by rintro (h | h); exact hbig h; exact hsm h), hgd])
     have HCL := Lib.hid (clone_any r hr1 hr2 Ar cr w5 (HRD.out.keep (HKW.out.trans HK5.out)))
     have HVS := Lib.hid (vs_set r k hrk N)
     obtain ⟨vx0, vx1, vx2⟩ := vsCells_at r k hrk
     have HV1 := Lib.hid vx1
     rw [hN.symm] at hbig hsm
     clear hN hgd vx0 vx1 vx2
     go_wp2_with fail
     refine HCL.out.mono ?_
     rintro e w6 ⟨⟨v6, rfl, hown6⟩, hk6⟩
     obtain ⟨g, cap6, rfl, hcp6, hb6, hg6, hcell6⟩ := own_some hown6 hr1
     have HO6 := Lib.hid hown6
     have HK6 := Lib.hid hk6
     have c1 := hcell6 _ _ HV1.out
     have f1 := own_cellF hown6 (k * 3 + 1)
     have HGB := Lib.hid hb6
     have hi3 : (0 : Int) ≤ (k : Int) := by omega
     have hi4 : (k : Int) < (r.length : Int) := by omega
     have HK7 := Lib.hid (((HK5.out.trans hk6)).setCell (p := ⟨g, k * 3 + 1, none⟩) (.inr (Nat.le_trans HK5.out.size hb6)) (.int .i64 N))
     have HO7 := Lib.hid (own_store (j := k * 3 + 1) (u := .int .i64 N) hown6)
     rw [← HVS.out] at HO7
     have HG7 := Lib.hid (HG.out.keep HK7.out)
     obtain ⟨hs, hsl, hso, hsi⟩ := HG7.out
     have HSO := Lib.hid hso
     rw [HOL.out] at hso
     have HO := Lib.hid hso
     have HSI := Lib.hid hsi
     have HSL := Lib.hid hsl
     have HQ : Hid ((w6.setCell ⟨g, k * 3 + 1, none⟩ (.int .i64 N)).ownsRow w3.heap.size 32 3 (.slice (some ⟨g, 0, none⟩) r.length cap6) (r.set k ⟨r[k].kind, N, r[k].word⟩).length (vsCells (r.set k ⟨r[k].kind, N, r[k].word⟩))) := Lib.hid (by
      rw [List.length_set]
      exact own_base HO7.out (Nat.le_trans HK.out.size HK5.out.size))
     have hz3 : w3.heap.size ≤ w6.heap.size := Nat.le_trans (Nat.le_trans HK.out.size HK5.out.size) hk6.size
     have hbd := Lib.hid (show m + 1 ≤ maxLen ∧ (m + 1) * 24 ≤ 140737488355328 by simp only [maxLen]; omega)
     clear hown6 hk6 hb6 hcell6 hso hsi hsl hcp6
     have hN2 := HN.out
     clear HN
     subst hN2
     go_wp2_with (at_builtin; (refine wpList_append_lies _ rfl _ _ 23 rfl w3.heap.size 41 ir _ 1 24 Tryz.underlying23 hir hrz0 hrz1 hrz2 rfl (by decide) _ m hs rfl (HO.out.alloc _) ⟨w6.heap.size, 0, none⟩ 1 1 [.slice (some ⟨g, 0, none⟩) r.length cap6] rfl rfl (World.news_of_block (heap_set_new _ _ _ _)) (by simp [Value.oneCell']) (by decide) hbd.out.1 hbd.out.2 (by rw [size_alloc, size_set0]; omega) _ rfl ?_); intro gw cap2 w9 hown9 hgrow9 hat9 hlt9)
     have HK9 := Lib.hid (((HK.out.trans HK7.out).alloc (.cells #[.slice (some ⟨g, 0, none⟩) r.length cap6] 41)).grown hgrow9 (fun g' hg => .inr (HO.out.lt g' hg).1))
     have HGN : Hid (Rws w9 w3.heap.size (.slice (some ⟨gw, 0, none⟩) (m + 1) cap2) (out ++ [r.set k ⟨r[k].kind, xn + yn, r[k].word⟩])) := Lib.hid (by
      have h := rws_snoc (W' := w9) (base := w3.heap.size) (gw := gw) (cap := cap2) HSL.out HSI.out HSO.out HQ.out hgrow9 (by rw [HOL.out]; exact hown9)
      rw [HOL.out] at h
      exact h)
     have HCN := Lib.hid (HFF.out.symm)
     clear hown9 hgrow9 hat9 hlt9
     go_wp2
     go_roundw
     case rel => exact ⟨m + 1, _, _, rfl, by omega, by go_num, by rw [List.length_append, HOL.out]; rfl, HGN, HCN, HK9.out⟩
     case measure => simp [intOf]; omega
  ·obtain rfl : m = t.rows.length := by omega
   have hcg := HCG.out
   rw [List.drop_length] at hcg
   have HCE : Hid (CG t.rows [] = some out) := Lib.hid (hcg.symm.trans (HNL.out out))
   obtain ⟨B6, d6, hv, hd6, hrd⟩ := HG.out.rd
   subst hv
   have HRI : Hid (RowsIs wr (.slice B6 out.length d6) out) := Lib.hid ⟨B6, d6, rfl, hd6, hrd⟩
   clear hcg hd6 hrd HG
   go_wp2
   go_ret2
   exact ⟨by rw [HCE.out]; exact ⟨_, rfl, tabs_one HRI.out _⟩, HKW.out.alloc _⟩
set_option maxHeartbeats 8000000 in
set_option maxRecDepth 40000 in
theorem changed_sub (j : Jb) (t : Tb) (k : Nat) (nm : Bs) (A B : Option Addr) (c d : Nat) (Ao : Option Addr) (co : Nat) (Ai : Option Addr) (ni ci : Nat) (Ac : Option Addr) (cc : Nat) (w : World) (hT : TabIn w t A B c d) (hcols : j.cols = [nm]) (hk : colIx t.cols nm = some k) (hcR : Rd w [] 1 Ac 1 (strs [nm]))
  (hrl : ∀ r ∈ t.rows, r.length = t.cols.length) (hal : ∀ r ∈ t.rows, argOk j.left t.cols r) (har : ∀ r ∈ t.rows, argOk j.right t.cols r)
  (hxl : ∀ r ∈ t.rows, -1000000000 ≤ (argV j.left t.cols r).num ∧ (argV j.left t.cols r).num ≤ 1000000000) (hxr : ∀ r ∈ t.rows, -1000000000 ≤ (argV j.right t.cols r).num ∧ (argV j.right t.cols r).num ≤ 1000000000) (hp : j.op = [45]) :
  Calls Tryz.prog 65 #[jAgg j Ao co Ai ni ci Ac cc, .agg #[.slice A t.cols.length c, .slice B t.rows.length d]] w fun e w' => ChgOut (changeGo j t t.rows []) e w' ∧ Keeps [] w w' := by
 obtain ⟨ir, hir, hrz0, hrz1, hrz2⟩ := info_parts rinfo
 have hkl : k < t.cols.length := (List.findIdx?_eq_some_iff_getElem.1 hk).1
 have hf := fun W (q : Keeps [] w W) => find_any t.cols nm A c W (hT.cols.keep q) hT.ln
 rw [hk] at hf
 have HF : Hid (∀ W, Keeps [] w W → Calls Tryz.prog 66 #[.slice A t.cols.length c, .string (bs nm)] W fun e w' => e = .returned (.int .i64 (k : Int)) ∧ Keeps [] W w') := Lib.hid hf
 have HAT := Lib.hid (fun m (h : m < t.rows.length) out => changeGo_at j t t.rows m h out)
 have HRW := Lib.hid (fun r => changeRow_at (j := j) (a := t) (k := k) (by rw [hcols]; exact hk) r)
 have HNL : Hid (∀ out, changeGo j t [] out = some out) := Lib.hid fun out => rfl
 generalize changeGo j t = CG at *
 generalize changeRow j t = CR at *
 have HT := Lib.hid hT
 have HAL := Lib.hid hal
 have HAR := Lib.hid har
 have HXL := Lib.hid hxl
 have HXR := Lib.hid hxr
 have HRL := Lib.hid hrl
 have hlm := hT.lm
 have hln := hT.ln
 clear hT hal har hxl hxr hrl hf hk
 obtain ⟨at_, code, outs, js, cols, op, ⟨lc, lk, ln, lw⟩, ⟨rc, rk, rn, rw'⟩, retry⟩ := j
 obtain ⟨no, hno⟩ : ∃ n, outs.length = n := ⟨_, rfl⟩
 simp only at hcols
 show Calls _ _ #[.agg #[.int .i64 at_, .int .i64 code, .slice Ao outs.length co, .slice Ai ni ci, .slice Ac cols.length cc, .string (bs op), .string (bs lc), .int .i64 lk, .int .i64 ln, .string (bs lw), .string (bs rc), .int .i64 rk, .int .i64 rn, .string (bs rw'), .int .i64 retry], .agg #[.slice A t.cols.length c, .slice B t.rows.length d]] w _
 rw [hno, show cols.length = 1 by rw [hcols]; rfl]
 have hOP : op = [45] ∨ True := .inr trivial
 subst hp
 have HSN : Hid (∀ x y, setN [45] x y = x - y) := Lib.hid (fun x y => by unfold setN; rfl)
 skip
 obtain ⟨b4, o4, hAc, _, hb4, hcs4⟩ := hcR.open' (by omega) (by decide)
 have d4 : w.cell? ⟨b4, o4, none⟩ = some (.string (bs nm)) := hcs4 0 _ rfl
 subst hAc
 have HK0 : Hid (Keeps [] w ((w.alloc (.cells #[.int .i64 at_, .int .i64 code, .slice Ao no co, .slice Ai ni ci, .slice (some ⟨b4, o4, none⟩) 1 cc, .string (bs [45]), .string (bs lc), .int .i64 lk, .int .i64 ln, .string (bs lw), .string (bs rc), .int .i64 rk, .int .i64 rn, .string (bs rw'), .int .i64 retry] 36)).alloc (.cells #[.slice A t.cols.length c, .slice B t.rows.length d] 25))) := Lib.hid (((Keeps.refl _ _).alloc _).alloc _)
 have HBX := Lib.hid (Blk.alloc (Blk.new w 36 #[.int .i64 at_, .int .i64 code, .slice Ao no co, .slice Ai ni ci, .slice (some ⟨b4, o4, none⟩) 1 cc, .string (bs [45]), .string (bs lc), .int .i64 lk, .int .i64 ln, .string (bs lw), .string (bs rc), .int .i64 rk, .int .i64 rn, .string (bs rw'), .int .i64 retry]) (.cells #[.slice A t.cols.length c, .slice B t.rows.length d] 25))
 have HBT := Lib.hid (Blk.new (w.alloc (.cells #[.int .i64 at_, .int .i64 code, .slice Ao no co, .slice Ai ni ci, .slice (some ⟨b4, o4, none⟩) 1 cc, .string (bs [45]), .string (bs lc), .int .i64 lk, .int .i64 ln, .string (bs lw), .string (bs rc), .int .i64 rk, .int .i64 rn, .string (bs rw'), .int .i64 retry] 36)) 25 #[.slice A t.cols.length c, .slice B t.rows.length d])
 rw [size_alloc] at HBT
 have HD4 := Lib.hid (HK0.out.cell_of d4 (by simp))
 clear hcR hcs4 d4 hcols hno hOP
 go_enter Tryz.func65, Tryz.ntmps65
 go_wp2
 obtain ⟨w2, hw2⟩ : ∃ w2, ((w.alloc (.cells #[.int .i64 at_, .int .i64 code, .slice Ao no co, .slice Ai ni ci, .slice (some ⟨b4, o4, none⟩) 1 cc, .string (bs [45]), .string (bs lc), .int .i64 lk, .int .i64 ln, .string (bs lw), .string (bs rc), .int .i64 rk, .int .i64 rn, .string (bs rw'), .int .i64 retry] 36)).alloc (.cells #[.slice A t.cols.length c, .slice B t.rows.length d] 25)) = w2 := ⟨_, rfl⟩
 rw [hw2] at HK0 HBX HBT HD4 ⊢
 obtain ⟨bx, hbx⟩ : ∃ bx, w.heap.size = bx := ⟨_, rfl⟩
 rw [hbx] at HBX HBT ⊢
 clear hw2 hbx
 have HF2 : Hid (∀ W, Keeps [] w2 W → Calls Tryz.prog 66 #[.slice A t.cols.length c, .string (bs nm)] W fun e w' => e = .returned (.int .i64 (k : Int)) ∧ Keeps [] W w') := Lib.hid (fun W q => HF.out W (HK0.out.trans q))
 have y4 : w2.cell? ⟨bx, 4, none⟩ = some (.slice (some ⟨b4, o4, none⟩) 1 cc) := HBX.out.cell 4
 have y0 : w2.cell? ⟨bx + 1, 0, none⟩ = some (.slice A t.cols.length c) := HBT.out.cell 0
 have y8 := HD4.out
 have l1 : bx < w2.heap.size := HBX.out.lt
 have l2 : bx + 1 < w2.heap.size := HBT.out.lt
 have l3 : b4 < w2.heap.size := World.block_lt_of_cell? _ _ y8
 refine wp_region_keeps (by kernel_rfl) (by kernel_rfl) ?_
 repeat (go_big_quiet_step (first | with_reducible exact KW.of HF2.out _))
 refine wpQuiet_nil ?_
 intro w3 hk3
 have HK3 := Lib.hid hk3
 have HKB := Lib.hid (HK0.out.trans hk3)
 have HBX3 := Lib.hid (HBX.out.keep hk3 (by simp))
 have HBT3 := Lib.hid (HBT.out.keep hk3 (by simp))
 clear hk3 y4 y0 y8 l1 l2 l3 HF2 HF HBX HBT HD4
 have y1 : w3.cell? ⟨bx + 1, 1, none⟩ = some (.slice B t.rows.length d) := HBT3.out.cell 1
 go_wp2
 clear y1
 go_loopw [7, 23] (fun u i wx => ∃ (m : Nat) (v : Value) (out : List (List Vl)), v = u ∧ m ≤ t.rows.length ∧ i = .int .i64 m ∧ out.length = m ∧ Hid (Rws wx w3.heap.size v out) ∧ Hid (CG (t.rows.drop m) out = CG t.rows []) ∧ Keeps [] w3 wx) (fun _ i _ => t.rows.length - (intOf i).toNat)
 case atStart => exact ⟨0, _, [], rfl, Nat.zero_le _, rfl, rfl, Rws.nil _ _, Lib.hid rfl, Keeps.refl _ _⟩
 case round =>
  obtain ⟨m, v, out, rfl, hm, rfl, hol, HG, HCG, hk⟩ := hrel
  have HOL := Lib.hid hol
  have HK := Lib.hid hk
  have HKW := Lib.hid (HKB.out.trans hk)
  clear hk hol
  by_cases hlt : m < t.rows.length
  ·obtain ⟨us, hul, hur, hui⟩ := HT.out.rows
   have hux : m < us.length := by omega
   have hrw := hui m hux hlt
   obtain ⟨b7, o7, hBe, _, hb7, hcs⟩ := hur.open' (by omega) (by omega)
   have d7 := hcs (m * 1) us[m] (by rw [Nat.mul_one]; exact List.getElem?_eq_getElem hux)
   rw [Nat.mul_one] at d7
   have hmem : t.rows[m] ∈ t.rows := List.getElem_mem hlt
   have hst := HAT.out m hlt out
   rw [HCG.out, HRW.out] at hst
   have hrr := HRL.out _ hmem
   obtain ⟨r, hr⟩ : ∃ r, t.rows[m] = r := ⟨_, rfl⟩
   rw [hr] at hrw hmem hrr hst
   obtain ⟨Ar, cr, hu, hcr, hrd⟩ := hrw
   rw [hu] at d7
   have d8 := HKW.out.cell_of d7 (by simp)
   subst hBe
   have HRD := Lib.hid hrd
   have HAA0 : Hid (∀ W, Keeps [] wr W → Calls Tryz.prog 64 #[.agg #[.string (bs lc), .int .i64 lk, .int .i64 ln, .string (bs lw)], .slice A t.cols.length c, .slice Ar r.length cr] W fun e w' => e = .returned (vAgg (argV ⟨lc, ⟨lk, ln, lw⟩⟩ t.cols r)) ∧ Keeps [] W w') := Lib.hid fun W q => arg_any ⟨lc, ⟨lk, ln, lw⟩⟩ t.cols r A Ar c cr W (HT.out.cols.keep (HKW.out.trans q)) HT.out.ln (hrd.keep (HKW.out.trans q)) (HAL.out r hmem)
   have HAB0 : Hid (∀ W, Keeps [] wr W → Calls Tryz.prog 64 #[.agg #[.string (bs rc), .int .i64 rk, .int .i64 rn, .string (bs rw')], .slice A t.cols.length c, .slice Ar r.length cr] W fun e w' => e = .returned (vAgg (argV ⟨rc, ⟨rk, rn, rw'⟩⟩ t.cols r)) ∧ Keeps [] W w') := Lib.hid fun W q => arg_any ⟨rc, ⟨rk, rn, rw'⟩⟩ t.cols r A Ar c cr W (HT.out.cols.keep (HKW.out.trans q)) HT.out.ln (hrd.keep (HKW.out.trans q)) (HAR.out r hmem)
   have hb1 := HXL.out r hmem
   have hb2 := HXR.out r hmem
   try simp only at hb1
   try simp only at hb2
   try simp only at hst
   obtain ⟨X, hX⟩ : ∃ X, argV ⟨lc, ⟨lk, ln, lw⟩⟩ t.cols r = X := ⟨_, rfl⟩
   obtain ⟨Y, hY⟩ : ∃ Y, argV ⟨rc, ⟨rk, rn, rw'⟩⟩ t.cols r = Y := ⟨_, rfl⟩
   rw [hX] at HAA0 hb1 hst
   rw [hY] at HAB0 hb2 hst
   obtain ⟨xk, xn, xw⟩ := X
   obtain ⟨yk, yn, yw⟩ := Y
   have HAA : Hid (∀ W, Keeps [] wr W → Calls Tryz.prog 64 #[.agg #[.string (bs lc), .int .i64 lk, .int .i64 ln, .string (bs lw)], .slice A t.cols.length c, .slice Ar r.length cr] W fun e w' => e = .returned (.agg #[.int .i64 xk, .int .i64 xn, .string (bs xw)]) ∧ Keeps [] W w') := HAA0
   have HAB : Hid (∀ W, Keeps [] wr W → Calls Tryz.prog 64 #[.agg #[.string (bs rc), .int .i64 rk, .int .i64 rn, .string (bs rw')], .slice A t.cols.length c, .slice Ar r.length cr] W fun e w' => e = .returned (.agg #[.int .i64 yk, .int .i64 yn, .string (bs yw)]) ∧ Keeps [] W w') := HAB0
   obtain ⟨hb1a, hb1b⟩ := hb1
   obtain ⟨hb2a, hb2b⟩ := hb2
   try simp only at hb1a hb1b hb2a hb2b
   try simp only at hst
   have HST := Lib.hid hst
   have hrk : k < r.length := by rw [hrr]; exact hkl
   have hr1 : 1 ≤ r.length := by omega
   have hr2 : r.length ≤ 4294967296 := by rw [hrr]; exact hln
   have hpm : -1000000000000000000 ≤ xn * yn ∧ xn * yn ≤ 1000000000000000000 := mul_bd hb1a hb1b hb2a hb2b
   have hp1 := hpm.1
   have hp2 := hpm.2
   have z3 := (HBX3.out.keep HK.out (by simp)).cell 6
   obtain ⟨y0, y1, y2, y3, y4, y5, y6, y7, y8, y9, y10, y11, y12, y13, y14⟩ := box15 (HBX3.out.keep HK.out (by simp))
   have x0 : wr.cell? ⟨bx + 1, 0, none⟩ = some (.slice A t.cols.length c) := (HBT3.out.keep HK.out (by simp)).cell 0
   have l1 : bx < wr.heap.size := (HBX3.out.keep HK.out (by simp)).lt
   have l2 : bx + 1 < wr.heap.size := (HBT3.out.keep HK.out (by simp)).lt
   clear hst hX hY hu hul hur hui hcs d7 hrd hpm hmem HAA0 HAB0 z3 hrr hr hcr
   have hfx : ∀ W, (Instr.field 32 (.agg #[.int .i64 xk, .int .i64 xn, .string (bs xw)]) 1).run Tryz.prog W = .ok (.int .i64 xn) W := fun W => by rfl
   have hfy : ∀ W, (Instr.field 32 (.agg #[.int .i64 yk, .int .i64 yn, .string (bs yw)]) 1).run Tryz.prog W = .ok (.int .i64 yn) W := fun W => by rfl
   go_wp2
   refine wp_region_keeps (by kernel_rfl) (by kernel_rfl) ?_
   repeat (go_big_quiet_step (first | with_reducible exact KW.of HAA.out _ | with_reducible exact KW.of HAB.out _))
   refine wpQuiet_nil ?_
   intro w5 hk5
   have HK5 := Lib.hid hk5
   clear y0 y1 y2 y3 y4 y6 y7 y8 y9 y10 y11 y12 y13 y14 x0 l1 l2 d8
   replace y5 := hk5.cell_of y5 (by simp)
   clear hk5
   obtain ⟨N, hN⟩ : ∃ N, xn - yn = N := ⟨_, rfl⟩
   have HN := Lib.hid hN
   have HSX : Hid (setN [45] xn yn = N) := Lib.hid ((HSN.out xn yn).trans hN)
   rw [HSX.out] at HST
   by_cases hbig : 1000000000 < N
   ·have HFF : Hid (CG t.rows [] = none) := Lib.hid (by rw [HST.out, if_pos (.inl hbig)])
    rw [hN.symm] at hbig
    clear hN
    go_wp2
    go_ret2
    exact ⟨by rw [HFF.out]; rfl, HKW.out.trans HK5.out⟩
   ·by_cases hsm : N < -1000000000
    ·have HFF : Hid (CG t.rows [] = none) := Lib.hid (by rw [HST.out, if_pos (.inr hsm)])
     rw [hN.symm] at hbig hsm
     clear hN
     go_wp2
     go_ret2
     exact ⟨by rw [HFF.out]; rfl, HKW.out.trans HK5.out⟩
    ·have hgd : r.getD k zV = r[k] := by rw [List.getD_eq_getElem?_getD, List.getElem?_eq_getElem hrk]; rfl
     have HFF : Hid (CG t.rows [] = CG (t.rows.drop (m + 1)) (out ++ [r.set k ⟨r[k].kind, N, r[k].word⟩])) := Lib.hid (by
      rw [HST.out, if_neg (by rintro (h | h); exact hbig h; exact hsm h), hgd])
     have HCL := Lib.hid (clone_any r hr1 hr2 Ar cr w5 (HRD.out.keep (HKW.out.trans HK5.out)))
     have HVS := Lib.hid (vs_set r k hrk N)
     obtain ⟨vx0, vx1, vx2⟩ := vsCells_at r k hrk
     have HV1 := Lib.hid vx1
     rw [hN.symm] at hbig hsm
     clear hN hgd vx0 vx1 vx2
     go_wp2_with fail
     refine HCL.out.mono ?_
     rintro e w6 ⟨⟨v6, rfl, hown6⟩, hk6⟩
     obtain ⟨g, cap6, rfl, hcp6, hb6, hg6, hcell6⟩ := own_some hown6 hr1
     have HO6 := Lib.hid hown6
     have HK6 := Lib.hid hk6
     have c1 := hcell6 _ _ HV1.out
     have f1 := own_cellF hown6 (k * 3 + 1)
     have HGB := Lib.hid hb6
     have hi3 : (0 : Int) ≤ (k : Int) := by omega
     have hi4 : (k : Int) < (r.length : Int) := by omega
     have HK7 := Lib.hid (((HK5.out.trans hk6)).setCell (p := ⟨g, k * 3 + 1, none⟩) (.inr (Nat.le_trans HK5.out.size hb6)) (.int .i64 N))
     have HO7 := Lib.hid (own_store (j := k * 3 + 1) (u := .int .i64 N) hown6)
     rw [← HVS.out] at HO7
     have HG7 := Lib.hid (HG.out.keep HK7.out)
     obtain ⟨hs, hsl, hso, hsi⟩ := HG7.out
     have HSO := Lib.hid hso
     rw [HOL.out] at hso
     have HO := Lib.hid hso
     have HSI := Lib.hid hsi
     have HSL := Lib.hid hsl
     have HQ : Hid ((w6.setCell ⟨g, k * 3 + 1, none⟩ (.int .i64 N)).ownsRow w3.heap.size 32 3 (.slice (some ⟨g, 0, none⟩) r.length cap6) (r.set k ⟨r[k].kind, N, r[k].word⟩).length (vsCells (r.set k ⟨r[k].kind, N, r[k].word⟩))) := Lib.hid (by
      rw [List.length_set]
      exact own_base HO7.out (Nat.le_trans HK.out.size HK5.out.size))
     have hz3 : w3.heap.size ≤ w6.heap.size := Nat.le_trans (Nat.le_trans HK.out.size HK5.out.size) hk6.size
     have hbd := Lib.hid (show m + 1 ≤ maxLen ∧ (m + 1) * 24 ≤ 140737488355328 by simp only [maxLen]; omega)
     clear hown6 hk6 hb6 hcell6 hso hsi hsl hcp6
     have hN2 := HN.out
     clear HN
     subst hN2
     go_wp2_with (at_builtin; (refine wpList_append_lies _ rfl _ _ 23 rfl w3.heap.size 41 ir _ 1 24 Tryz.underlying23 hir hrz0 hrz1 hrz2 rfl (by decide) _ m hs rfl (HO.out.alloc _) ⟨w6.heap.size, 0, none⟩ 1 1 [.slice (some ⟨g, 0, none⟩) r.length cap6] rfl rfl (World.news_of_block (heap_set_new _ _ _ _)) (by simp [Value.oneCell']) (by decide) hbd.out.1 hbd.out.2 (by rw [size_alloc, size_set0]; omega) _ rfl ?_); intro gw cap2 w9 hown9 hgrow9 hat9 hlt9)
     have HK9 := Lib.hid (((HK.out.trans HK7.out).alloc (.cells #[.slice (some ⟨g, 0, none⟩) r.length cap6] 41)).grown hgrow9 (fun g' hg => .inr (HO.out.lt g' hg).1))
     have HGN : Hid (Rws w9 w3.heap.size (.slice (some ⟨gw, 0, none⟩) (m + 1) cap2) (out ++ [r.set k ⟨r[k].kind, xn - yn, r[k].word⟩])) := Lib.hid (by
      have h := rws_snoc (W' := w9) (base := w3.heap.size) (gw := gw) (cap := cap2) HSL.out HSI.out HSO.out HQ.out hgrow9 (by rw [HOL.out]; exact hown9)
      rw [HOL.out] at h
      exact h)
     have HCN := Lib.hid (HFF.out.symm)
     clear hown9 hgrow9 hat9 hlt9
     go_wp2
     go_roundw
     case rel => exact ⟨m + 1, _, _, rfl, by omega, by go_num, by rw [List.length_append, HOL.out]; rfl, HGN, HCN, HK9.out⟩
     case measure => simp [intOf]; omega
  ·obtain rfl : m = t.rows.length := by omega
   have hcg := HCG.out
   rw [List.drop_length] at hcg
   have HCE : Hid (CG t.rows [] = some out) := Lib.hid (hcg.symm.trans (HNL.out out))
   obtain ⟨B6, d6, hv, hd6, hrd⟩ := HG.out.rd
   subst hv
   have HRI : Hid (RowsIs wr (.slice B6 out.length d6) out) := Lib.hid ⟨B6, d6, rfl, hd6, hrd⟩
   clear hcg hd6 hrd HG
   go_wp2
   go_ret2
   exact ⟨by rw [HCE.out]; exact ⟨_, rfl, tabs_one HRI.out _⟩, HKW.out.alloc _⟩
set_option maxHeartbeats 8000000 in
set_option maxRecDepth 40000 in
theorem changed_mul (j : Jb) (t : Tb) (k : Nat) (nm : Bs) (A B : Option Addr) (c d : Nat) (Ao : Option Addr) (co : Nat) (Ai : Option Addr) (ni ci : Nat) (Ac : Option Addr) (cc : Nat) (w : World) (hT : TabIn w t A B c d) (hcols : j.cols = [nm]) (hk : colIx t.cols nm = some k) (hcR : Rd w [] 1 Ac 1 (strs [nm]))
  (hrl : ∀ r ∈ t.rows, r.length = t.cols.length) (hal : ∀ r ∈ t.rows, argOk j.left t.cols r) (har : ∀ r ∈ t.rows, argOk j.right t.cols r)
  (hxl : ∀ r ∈ t.rows, -1000000000 ≤ (argV j.left t.cols r).num ∧ (argV j.left t.cols r).num ≤ 1000000000) (hxr : ∀ r ∈ t.rows, -1000000000 ≤ (argV j.right t.cols r).num ∧ (argV j.right t.cols r).num ≤ 1000000000) (hp : j.op ≠ [43]) (hm : j.op ≠ [45]) :
  Calls Tryz.prog 65 #[jAgg j Ao co Ai ni ci Ac cc, .agg #[.slice A t.cols.length c, .slice B t.rows.length d]] w fun e w' => ChgOut (changeGo j t t.rows []) e w' ∧ Keeps [] w w' := by
 obtain ⟨ir, hir, hrz0, hrz1, hrz2⟩ := info_parts rinfo
 have hkl : k < t.cols.length := (List.findIdx?_eq_some_iff_getElem.1 hk).1
 have hf := fun W (q : Keeps [] w W) => find_any t.cols nm A c W (hT.cols.keep q) hT.ln
 rw [hk] at hf
 have HF : Hid (∀ W, Keeps [] w W → Calls Tryz.prog 66 #[.slice A t.cols.length c, .string (bs nm)] W fun e w' => e = .returned (.int .i64 (k : Int)) ∧ Keeps [] W w') := Lib.hid hf
 have HAT := Lib.hid (fun m (h : m < t.rows.length) out => changeGo_at j t t.rows m h out)
 have HRW := Lib.hid (fun r => changeRow_at (j := j) (a := t) (k := k) (by rw [hcols]; exact hk) r)
 have HNL : Hid (∀ out, changeGo j t [] out = some out) := Lib.hid fun out => rfl
 generalize changeGo j t = CG at *
 generalize changeRow j t = CR at *
 have HT := Lib.hid hT
 have HAL := Lib.hid hal
 have HAR := Lib.hid har
 have HXL := Lib.hid hxl
 have HXR := Lib.hid hxr
 have HRL := Lib.hid hrl
 have hlm := hT.lm
 have hln := hT.ln
 clear hT hal har hxl hxr hrl hf hk
 obtain ⟨at_, code, outs, js, cols, op, ⟨lc, lk, ln, lw⟩, ⟨rc, rk, rn, rw'⟩, retry⟩ := j
 obtain ⟨no, hno⟩ : ∃ n, outs.length = n := ⟨_, rfl⟩
 simp only at hcols
 show Calls _ _ #[.agg #[.int .i64 at_, .int .i64 code, .slice Ao outs.length co, .slice Ai ni ci, .slice Ac cols.length cc, .string (bs op), .string (bs lc), .int .i64 lk, .int .i64 ln, .string (bs lw), .string (bs rc), .int .i64 rk, .int .i64 rn, .string (bs rw'), .int .i64 retry], .agg #[.slice A t.cols.length c, .slice B t.rows.length d]] w _
 rw [hno, show cols.length = 1 by rw [hcols]; rfl]
 have hOP : op = op ∨ True := .inr trivial
 have t1 : (op == [43]) = false := by rw [beq_eq_false_iff_ne]; exact hp
 have t2 : (op == [45]) = false := by rw [beq_eq_false_iff_ne]; exact hm
 have HSN : Hid (∀ x y, setN op x y = x * y) := Lib.hid (fun x y => by unfold setN; rw [if_neg hp, if_neg hm])
 clear hp hm
 obtain ⟨b4, o4, hAc, _, hb4, hcs4⟩ := hcR.open' (by omega) (by decide)
 have d4 : w.cell? ⟨b4, o4, none⟩ = some (.string (bs nm)) := hcs4 0 _ rfl
 subst hAc
 have HK0 : Hid (Keeps [] w ((w.alloc (.cells #[.int .i64 at_, .int .i64 code, .slice Ao no co, .slice Ai ni ci, .slice (some ⟨b4, o4, none⟩) 1 cc, .string (bs op), .string (bs lc), .int .i64 lk, .int .i64 ln, .string (bs lw), .string (bs rc), .int .i64 rk, .int .i64 rn, .string (bs rw'), .int .i64 retry] 36)).alloc (.cells #[.slice A t.cols.length c, .slice B t.rows.length d] 25))) := Lib.hid (((Keeps.refl _ _).alloc _).alloc _)
 have HBX := Lib.hid (Blk.alloc (Blk.new w 36 #[.int .i64 at_, .int .i64 code, .slice Ao no co, .slice Ai ni ci, .slice (some ⟨b4, o4, none⟩) 1 cc, .string (bs op), .string (bs lc), .int .i64 lk, .int .i64 ln, .string (bs lw), .string (bs rc), .int .i64 rk, .int .i64 rn, .string (bs rw'), .int .i64 retry]) (.cells #[.slice A t.cols.length c, .slice B t.rows.length d] 25))
 have HBT := Lib.hid (Blk.new (w.alloc (.cells #[.int .i64 at_, .int .i64 code, .slice Ao no co, .slice Ai ni ci, .slice (some ⟨b4, o4, none⟩) 1 cc, .string (bs op), .string (bs lc), .int .i64 lk, .int .i64 ln, .string (bs lw), .string (bs rc), .int .i64 rk, .int .i64 rn, .string (bs rw'), .int .i64 retry] 36)) 25 #[.slice A t.cols.length c, .slice B t.rows.length d])
 rw [size_alloc] at HBT
 have HD4 := Lib.hid (HK0.out.cell_of d4 (by simp))
 clear hcR hcs4 d4 hcols hno hOP
 go_enter Tryz.func65, Tryz.ntmps65
 go_wp2
 obtain ⟨w2, hw2⟩ : ∃ w2, ((w.alloc (.cells #[.int .i64 at_, .int .i64 code, .slice Ao no co, .slice Ai ni ci, .slice (some ⟨b4, o4, none⟩) 1 cc, .string (bs op), .string (bs lc), .int .i64 lk, .int .i64 ln, .string (bs lw), .string (bs rc), .int .i64 rk, .int .i64 rn, .string (bs rw'), .int .i64 retry] 36)).alloc (.cells #[.slice A t.cols.length c, .slice B t.rows.length d] 25)) = w2 := ⟨_, rfl⟩
 rw [hw2] at HK0 HBX HBT HD4 ⊢
 obtain ⟨bx, hbx⟩ : ∃ bx, w.heap.size = bx := ⟨_, rfl⟩
 rw [hbx] at HBX HBT ⊢
 clear hw2 hbx
 have HF2 : Hid (∀ W, Keeps [] w2 W → Calls Tryz.prog 66 #[.slice A t.cols.length c, .string (bs nm)] W fun e w' => e = .returned (.int .i64 (k : Int)) ∧ Keeps [] W w') := Lib.hid (fun W q => HF.out W (HK0.out.trans q))
 have y4 : w2.cell? ⟨bx, 4, none⟩ = some (.slice (some ⟨b4, o4, none⟩) 1 cc) := HBX.out.cell 4
 have y0 : w2.cell? ⟨bx + 1, 0, none⟩ = some (.slice A t.cols.length c) := HBT.out.cell 0
 have y8 := HD4.out
 have l1 : bx < w2.heap.size := HBX.out.lt
 have l2 : bx + 1 < w2.heap.size := HBT.out.lt
 have l3 : b4 < w2.heap.size := World.block_lt_of_cell? _ _ y8
 refine wp_region_keeps (by kernel_rfl) (by kernel_rfl) ?_
 repeat (go_big_quiet_step (first | with_reducible exact KW.of HF2.out _))
 refine wpQuiet_nil ?_
 intro w3 hk3
 have HK3 := Lib.hid hk3
 have HKB := Lib.hid (HK0.out.trans hk3)
 have HBX3 := Lib.hid (HBX.out.keep hk3 (by simp))
 have HBT3 := Lib.hid (HBT.out.keep hk3 (by simp))
 clear hk3 y4 y0 y8 l1 l2 l3 HF2 HF HBX HBT HD4
 have y1 : w3.cell? ⟨bx + 1, 1, none⟩ = some (.slice B t.rows.length d) := HBT3.out.cell 1
 go_wp2
 clear y1
 go_loopw [7, 23] (fun u i wx => ∃ (m : Nat) (v : Value) (out : List (List Vl)), v = u ∧ m ≤ t.rows.length ∧ i = .int .i64 m ∧ out.length = m ∧ Hid (Rws wx w3.heap.size v out) ∧ Hid (CG (t.rows.drop m) out = CG t.rows []) ∧ Keeps [] w3 wx) (fun _ i _ => t.rows.length - (intOf i).toNat)
 case atStart => exact ⟨0, _, [], rfl, Nat.zero_le _, rfl, rfl, Rws.nil _ _, Lib.hid rfl, Keeps.refl _ _⟩
 case round =>
  obtain ⟨m, v, out, rfl, hm, rfl, hol, HG, HCG, hk⟩ := hrel
  have HOL := Lib.hid hol
  have HK := Lib.hid hk
  have HKW := Lib.hid (HKB.out.trans hk)
  clear hk hol
  by_cases hlt : m < t.rows.length
  ·obtain ⟨us, hul, hur, hui⟩ := HT.out.rows
   have hux : m < us.length := by omega
   have hrw := hui m hux hlt
   obtain ⟨b7, o7, hBe, _, hb7, hcs⟩ := hur.open' (by omega) (by omega)
   have d7 := hcs (m * 1) us[m] (by rw [Nat.mul_one]; exact List.getElem?_eq_getElem hux)
   rw [Nat.mul_one] at d7
   have hmem : t.rows[m] ∈ t.rows := List.getElem_mem hlt
   have hst := HAT.out m hlt out
   rw [HCG.out, HRW.out] at hst
   have hrr := HRL.out _ hmem
   obtain ⟨r, hr⟩ : ∃ r, t.rows[m] = r := ⟨_, rfl⟩
   rw [hr] at hrw hmem hrr hst
   obtain ⟨Ar, cr, hu, hcr, hrd⟩ := hrw
   rw [hu] at d7
   have d8 := HKW.out.cell_of d7 (by simp)
   subst hBe
   have HRD := Lib.hid hrd
   have HAA0 : Hid (∀ W, Keeps [] wr W → Calls Tryz.prog 64 #[.agg #[.string (bs lc), .int .i64 lk, .int .i64 ln, .string (bs lw)], .slice A t.cols.length c, .slice Ar r.length cr] W fun e w' => e = .returned (vAgg (argV ⟨lc, ⟨lk, ln, lw⟩⟩ t.cols r)) ∧ Keeps [] W w') := Lib.hid fun W q => arg_any ⟨lc, ⟨lk, ln, lw⟩⟩ t.cols r A Ar c cr W (HT.out.cols.keep (HKW.out.trans q)) HT.out.ln (hrd.keep (HKW.out.trans q)) (HAL.out r hmem)
   have HAB0 : Hid (∀ W, Keeps [] wr W → Calls Tryz.prog 64 #[.agg #[.string (bs rc), .int .i64 rk, .int .i64 rn, .string (bs rw')], .slice A t.cols.length c, .slice Ar r.length cr] W fun e w' => e = .returned (vAgg (argV ⟨rc, ⟨rk, rn, rw'⟩⟩ t.cols r)) ∧ Keeps [] W w') := Lib.hid fun W q => arg_any ⟨rc, ⟨rk, rn, rw'⟩⟩ t.cols r A Ar c cr W (HT.out.cols.keep (HKW.out.trans q)) HT.out.ln (hrd.keep (HKW.out.trans q)) (HAR.out r hmem)
   have hb1 := HXL.out r hmem
   have hb2 := HXR.out r hmem
   try simp only at hb1
   try simp only at hb2
   try simp only at hst
   obtain ⟨X, hX⟩ : ∃ X, argV ⟨lc, ⟨lk, ln, lw⟩⟩ t.cols r = X := ⟨_, rfl⟩
   obtain ⟨Y, hY⟩ : ∃ Y, argV ⟨rc, ⟨rk, rn, rw'⟩⟩ t.cols r = Y := ⟨_, rfl⟩
   rw [hX] at HAA0 hb1 hst
   rw [hY] at HAB0 hb2 hst
   obtain ⟨xk, xn, xw⟩ := X
   obtain ⟨yk, yn, yw⟩ := Y
   have HAA : Hid (∀ W, Keeps [] wr W → Calls Tryz.prog 64 #[.agg #[.string (bs lc), .int .i64 lk, .int .i64 ln, .string (bs lw)], .slice A t.cols.length c, .slice Ar r.length cr] W fun e w' => e = .returned (.agg #[.int .i64 xk, .int .i64 xn, .string (bs xw)]) ∧ Keeps [] W w') := HAA0
   have HAB : Hid (∀ W, Keeps [] wr W → Calls Tryz.prog 64 #[.agg #[.string (bs rc), .int .i64 rk, .int .i64 rn, .string (bs rw')], .slice A t.cols.length c, .slice Ar r.length cr] W fun e w' => e = .returned (.agg #[.int .i64 yk, .int .i64 yn, .string (bs yw)]) ∧ Keeps [] W w') := HAB0
   obtain ⟨hb1a, hb1b⟩ := hb1
   obtain ⟨hb2a, hb2b⟩ := hb2
   try simp only at hb1a hb1b hb2a hb2b
   try simp only at hst
   have HST := Lib.hid hst
   have hrk : k < r.length := by rw [hrr]; exact hkl
   have hr1 : 1 ≤ r.length := by omega
   have hr2 : r.length ≤ 4294967296 := by rw [hrr]; exact hln
   have hpm : -1000000000000000000 ≤ xn * yn ∧ xn * yn ≤ 1000000000000000000 := mul_bd hb1a hb1b hb2a hb2b
   have hp1 := hpm.1
   have hp2 := hpm.2
   have z3 := (HBX3.out.keep HK.out (by simp)).cell 6
   obtain ⟨y0, y1, y2, y3, y4, y5, y6, y7, y8, y9, y10, y11, y12, y13, y14⟩ := box15 (HBX3.out.keep HK.out (by simp))
   have x0 : wr.cell? ⟨bx + 1, 0, none⟩ = some (.slice A t.cols.length c) := (HBT3.out.keep HK.out (by simp)).cell 0
   have l1 : bx < wr.heap.size := (HBX3.out.keep HK.out (by simp)).lt
   have l2 : bx + 1 < wr.heap.size := (HBT3.out.keep HK.out (by simp)).lt
   clear hst hX hY hu hul hur hui hcs d7 hrd hpm hmem HAA0 HAB0 z3 hrr hr hcr
   have hfx : ∀ W, (Instr.field 32 (.agg #[.int .i64 xk, .int .i64 xn, .string (bs xw)]) 1).run Tryz.prog W = .ok (.int .i64 xn) W := fun W => by rfl
   have hfy : ∀ W, (Instr.field 32 (.agg #[.int .i64 yk, .int .i64 yn, .string (bs yw)]) 1).run Tryz.prog W = .ok (.int .i64 yn) W := fun W => by rfl
   go_wp2
   refine wp_region_keeps (by kernel_rfl) (by kernel_rfl) ?_
   repeat (go_big_quiet_step (first | with_reducible exact KW.of HAA.out _ | with_reducible exact KW.of HAB.out _))
   refine wpQuiet_nil ?_
   intro w5 hk5
   have HK5 := Lib.hid hk5
   clear y0 y1 y2 y3 y4 y6 y7 y8 y9 y10 y11 y12 y13 y14 x0 l1 l2 d8
   replace y5 := hk5.cell_of y5 (by simp)
   clear hk5
   obtain ⟨N, hN⟩ : ∃ N, xn * yn = N := ⟨_, rfl⟩
   have HN := Lib.hid hN
   have HSX : Hid (setN op xn yn = N) := Lib.hid ((HSN.out xn yn).trans hN)
   rw [HSX.out] at HST
   by_cases hbig : 1000000000 < N
   ·have HFF : Hid (CG t.rows [] = none) := Lib.hid (by rw [HST.out, if_pos (.inl hbig)])
    rw [hN.symm] at hbig
    clear hN
    go_wp2
    go_ret2
    exact ⟨by rw [HFF.out]; rfl, HKW.out.trans HK5.out⟩
   ·by_cases hsm : N < -1000000000
    ·have HFF : Hid (CG t.rows [] = none) := Lib.hid (by rw [HST.out, if_pos (.inr hsm)])
     rw [hN.symm] at hbig hsm
     clear hN
     go_wp2
     go_ret2
     exact ⟨by rw [HFF.out]; rfl, HKW.out.trans HK5.out⟩
    ·have hgd : r.getD k zV = r[k] := by rw [List.getD_eq_getElem?_getD, List.getElem?_eq_getElem hrk]; rfl
     have HFF : Hid (CG t.rows [] = CG (t.rows.drop (m + 1)) (out ++ [r.set k ⟨r[k].kind, N, r[k].word⟩])) := Lib.hid (by
      rw [HST.out, if_neg (by rintro (h | h); exact hbig h; exact hsm h), hgd])
     have HCL := Lib.hid (clone_any r hr1 hr2 Ar cr w5 (HRD.out.keep (HKW.out.trans HK5.out)))
     have HVS := Lib.hid (vs_set r k hrk N)
     obtain ⟨vx0, vx1, vx2⟩ := vsCells_at r k hrk
     have HV1 := Lib.hid vx1
     rw [hN.symm] at hbig hsm
     clear hN hgd vx0 vx1 vx2
     go_wp2_with fail
     refine HCL.out.mono ?_
     rintro e w6 ⟨⟨v6, rfl, hown6⟩, hk6⟩
     obtain ⟨g, cap6, rfl, hcp6, hb6, hg6, hcell6⟩ := own_some hown6 hr1
     have HO6 := Lib.hid hown6
     have HK6 := Lib.hid hk6
     have c1 := hcell6 _ _ HV1.out
     have f1 := own_cellF hown6 (k * 3 + 1)
     have HGB := Lib.hid hb6
     have hi3 : (0 : Int) ≤ (k : Int) := by omega
     have hi4 : (k : Int) < (r.length : Int) := by omega
     have HK7 := Lib.hid (((HK5.out.trans hk6)).setCell (p := ⟨g, k * 3 + 1, none⟩) (.inr (Nat.le_trans HK5.out.size hb6)) (.int .i64 N))
     have HO7 := Lib.hid (own_store (j := k * 3 + 1) (u := .int .i64 N) hown6)
     rw [← HVS.out] at HO7
     have HG7 := Lib.hid (HG.out.keep HK7.out)
     obtain ⟨hs, hsl, hso, hsi⟩ := HG7.out
     have HSO := Lib.hid hso
     rw [HOL.out] at hso
     have HO := Lib.hid hso
     have HSI := Lib.hid hsi
     have HSL := Lib.hid hsl
     have HQ : Hid ((w6.setCell ⟨g, k * 3 + 1, none⟩ (.int .i64 N)).ownsRow w3.heap.size 32 3 (.slice (some ⟨g, 0, none⟩) r.length cap6) (r.set k ⟨r[k].kind, N, r[k].word⟩).length (vsCells (r.set k ⟨r[k].kind, N, r[k].word⟩))) := Lib.hid (by
      rw [List.length_set]
      exact own_base HO7.out (Nat.le_trans HK.out.size HK5.out.size))
     have hz3 : w3.heap.size ≤ w6.heap.size := Nat.le_trans (Nat.le_trans HK.out.size HK5.out.size) hk6.size
     have hbd := Lib.hid (show m + 1 ≤ maxLen ∧ (m + 1) * 24 ≤ 140737488355328 by simp only [maxLen]; omega)
     clear hown6 hk6 hb6 hcell6 hso hsi hsl hcp6
     have hN2 := HN.out
     clear HN
     subst hN2
     go_wp2_with (at_builtin; (refine wpList_append_lies _ rfl _ _ 23 rfl w3.heap.size 41 ir _ 1 24 Tryz.underlying23 hir hrz0 hrz1 hrz2 rfl (by decide) _ m hs rfl (HO.out.alloc _) ⟨w6.heap.size, 0, none⟩ 1 1 [.slice (some ⟨g, 0, none⟩) r.length cap6] rfl rfl (World.news_of_block (heap_set_new _ _ _ _)) (by simp [Value.oneCell']) (by decide) hbd.out.1 hbd.out.2 (by rw [size_alloc, size_set0]; omega) _ rfl ?_); intro gw cap2 w9 hown9 hgrow9 hat9 hlt9)
     have HK9 := Lib.hid (((HK.out.trans HK7.out).alloc (.cells #[.slice (some ⟨g, 0, none⟩) r.length cap6] 41)).grown hgrow9 (fun g' hg => .inr (HO.out.lt g' hg).1))
     have HGN : Hid (Rws w9 w3.heap.size (.slice (some ⟨gw, 0, none⟩) (m + 1) cap2) (out ++ [r.set k ⟨r[k].kind, xn * yn, r[k].word⟩])) := Lib.hid (by
      have h := rws_snoc (W' := w9) (base := w3.heap.size) (gw := gw) (cap := cap2) HSL.out HSI.out HSO.out HQ.out hgrow9 (by rw [HOL.out]; exact hown9)
      rw [HOL.out] at h
      exact h)
     have HCN := Lib.hid (HFF.out.symm)
     clear hown9 hgrow9 hat9 hlt9
     go_wp2
     go_roundw
     case rel => exact ⟨m + 1, _, _, rfl, by omega, by go_num, by rw [List.length_append, HOL.out]; rfl, HGN, HCN, HK9.out⟩
     case measure => simp [intOf]; omega
  ·obtain rfl : m = t.rows.length := by omega
   have hcg := HCG.out
   rw [List.drop_length] at hcg
   have HCE : Hid (CG t.rows [] = some out) := Lib.hid (hcg.symm.trans (HNL.out out))
   obtain ⟨B6, d6, hv, hd6, hrd⟩ := HG.out.rd
   subst hv
   have HRI : Hid (RowsIs wr (.slice B6 out.length d6) out) := Lib.hid ⟨B6, d6, rfl, hd6, hrd⟩
   clear hcg hd6 hrd HG
   go_wp2
   go_ret2
   exact ⟨by rw [HCE.out]; exact ⟨_, rfl, tabs_one HRI.out _⟩, HKW.out.alloc _⟩
end Go.Proofs.YtpfkjejknlkkoaaGreatDoor
namespace Go.Proofs.YtpfkjejknlkkoaaGreatDoor
theorem do_ok {j : Jb} {ins : List Tb} {l : List Tb} : doJ j ins = .ok l ↔ (∀ t ∈ ins, rightB t = true) ∧ ∃ out rows, colsJ j (ins.map (·.cols)) = .ok out ∧ madeJ j ins out = .ok rows ∧ tabsJ out rows = .ok l := by
 unfold doJ
 by_cases h : (ins.any fun t => !rightB t) = true
 ·rw [if_pos h]
  constructor
  ·intro h2; cases h2
  ·rintro ⟨h2, _⟩
   rw [List.any_eq_true] at h
   obtain ⟨t, ht, hn⟩ := h
   rw [h2 t ht] at hn
   cases hn
 ·rw [if_neg h]
  have hr : ∀ t ∈ ins, rightB t = true := fun t ht => by
   refine Classical.byContradiction fun hc => h (List.any_eq_true.2 ⟨t, ht, ?_⟩)
   simpa using hc
  cases hc : colsJ j (ins.map (·.cols)) with
  | error e =>
   simp only
   constructor
   ·intro h2; cases h2
   ·rintro ⟨_, out, rows, h3, _⟩; cases h3
  | ok out =>
   cases hm : madeJ j ins out with
   | error e =>
    simp only [hm]
    constructor
    ·intro h2; cases h2
    ·rintro ⟨_, out', rows, h3, h4, _⟩
     cases h3
     rw [hm] at h4
     cases h4
   | ok rows =>
    simp only [hm]
    constructor
    ·intro h2; exact ⟨hr, out, rows, rfl, hm, h2⟩
    ·rintro ⟨_, out', rows', h3, h4, h5⟩
     cases h3
     rw [hm] at h4
     cases h4
     exact h5
theorem tabsJ_one (c : List Cl) (r : List (List Vl)) : tabsJ [c] [r] = if 60 < r.length then .error 12 else .ok [⟨c, r⟩] := by
 unfold tabsJ
 split
 ·rfl
 ·simp [tabsJ]
theorem one_iff {j : Jb} {ins : List Tb} {u : Tb} (hc : j.code / 9 = 0) : oneJ j ins = some u ↔ doJ { j with outs := [[120]] } ins = .ok [u] := by
 unfold oneJ
 rw [hc]
 simp only [Int.toNat_zero, Nat.add_zero, List.take_succ_cons, List.take_zero]
 cases doJ { j with outs := [[120]] } ins with
 | error e => simp
 | ok out =>
  simp only [List.length_cons, List.length_nil]
  match out with
  | [] => simp
  | [x] => simp
  | x :: y :: t => simp
def cmpE (j : Jb) (a : List Cl) : Option Int :=
 if j.op ∉ compares ∨ j.left.col = [] then some 1
 else match colIx a j.left.col with
  | none => some 7
  | some k => if kindI j.right a ≠ (a.getD k zC).kind then some 13 else none
theorem compared_eq (j : Jb) (a : List Cl) : comparedJ j a = match cmpE j a with
  | some e => .error e
  | none => .ok (List.replicate (if j.code = 9 then 2 else 1) a) := by
 unfold comparedJ cmpE
 split
 ·rfl
 ·cases colIx a j.left.col with
  | none => rfl
  | some k =>
   simp only
   split <;> rfl
def filterT (j : Jb) (t : Tb) : Tb := ⟨t.cols, t.rows.filter (keepsJ j t)⟩
theorem right_rows {t : Tb} (h : rightB t = true) : t.rows.length ≤ 60 := (rightB_parts.1 h).2.1
theorem right_sub {t : Tb} {rs : List (List Vl)} (h : rightB t = true) (hl : rs.length ≤ 60) (hs : ∀ r ∈ rs, r ∈ t.rows) : rightB ⟨t.cols, rs⟩ = true := by
 obtain ⟨a, _, c⟩ := rightB_parts.1 h
 exact rightB_parts.2 ⟨a, hl, fun r hr => c r (hs r hr)⟩
theorem filter_right {t : Tb} (j : Jb) (h : rightB t = true) : rightB (filterT j t) = true :=
 right_sub h (Nat.le_trans (List.length_filter_le _ _) (right_rows h)) fun _ hr => (List.mem_filter.1 hr).1
theorem do_filter (j : Jb) (t : Tb) (hc : j.code = 1) (ho : j.outs.length = 1) : doJ j [t] = if rightB t = true then (match cmpE j t.cols with
  | some e => .error e
  | none => .ok [filterT j t]) else .error 1 := by
 unfold doJ
 by_cases hr : rightB t = true
 ·have e1 : ([t].any fun t => !rightB t) = false := by simp [hr]
  rw [e1, if_neg (by decide), if_pos hr]
  unfold colsJ sizesN
  simp only [hc, ho, List.map_cons, List.map_nil, List.getD_cons_zero, compared_eq]
  cases cmpE j t.cols with
  | some e => simp
  | none =>
   have hl : ¬ 60 < (t.rows.filter (keepsJ j t)).length := by have := List.length_filter_le (keepsJ j t) t.rows; have := right_rows hr; omega
   simp [madeJ, madeO, hc, tabsJ, if_neg hl]
   rfl
 ·have e1 : ([t].any fun t => !rightB t) = true := by simp [hr]
  rw [e1, if_pos rfl, if_neg hr]
theorem one_filter (j : Jb) (t : Tb) (hc : j.code = 1) : oneJ j [t] = if rightB t = true ∧ cmpE j t.cols = none then some (filterT j t) else none := by
 unfold oneJ
 have e : (1 + (j.code / 9).toNat) = 1 := by rw [hc]; rfl
 rw [e, do_filter { j with outs := [[120], [121]].take 1 } t hc (by simp)]
 by_cases hr : rightB t = true
 ·rw [if_pos hr]
  have e2 : cmpE { j with outs := [[120], [121]].take 1 } t.cols = cmpE j t.cols := rfl
  rw [e2]
  cases hE : cmpE j t.cols with
  | some e => simp
  | none => simp [hr]; rfl
 ·rw [if_neg hr]
  simp [hr]
end Go.Proofs.YtpfkjejknlkkoaaGreatDoor
