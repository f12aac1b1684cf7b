/- ops.pairs. A region that draws its order, walked by a relation that each operation keeps, whatever has come up: for regions that make and write memory. No program in sight. Rows in a block: what two stores swap. -/
import Derived.Test.YtpfkjejknlkkoaaGreatDoorOsoM14
import Derived.Test.YtpfkjejknlkkoaaGreatDoorOsoM16
import Derived.Test.YtpfkjejknlkkoaaGreatDoorOsoM5
import Derived.Test.YtpfkjejknlkkoaaGreatDoorOsoM17
import Derived.Test.YtpfkjejknlkkoaaGreatDoorOsoM1
import Derived.Orders
import Derived.Test.YtpfkjejknlkkoaaGreatDoorOsoM3
set_option linter.unusedSimpArgs false
set_option linter.unusedVariables false
namespace Go.Proofs.YtpfkjejknlkkoaaGreatDoor
open Go.RowKit Go.BigFrame
attribute [local go_sem] bs_size bs_extract bs_append bs_toList KW.cell
theorem slice_toV (A : Option Addr) (m d n : Nat) (h : n ≤ d) (W : World) : (Instr.slice 41 (.slice A m d) none (some (.int .i64 (n : Int))) none).run Tryz.prog W = .ok (.slice A n d) W := by
 have hT := Tryz.underlying41
 have hl0 : (0 : Int) ≤ (n : Int) := by omega
 have hl1 : (n : Int) ≤ (d : Int) := by omega
 cases A with
 | none => go_simp
 | some a => go_simp
theorem slice_fromV (b o n d lo : Nat) (h1 : lo ≤ n) (h2 : n ≤ d) : ∃ A, (∀ W, (Instr.slice 41 (.slice (some ⟨b, o, none⟩) n d) (some (.int .i64 (lo : Int))) none none).run Tryz.prog W = .ok (.slice A (n - lo) (d - lo)) W) ∧ (lo < d → A = some ⟨b, o + lo * 3, none⟩) := by
 have hT := Tryz.underlying41
 have hl0 : (0 : Int) ≤ (lo : Int) := by omega
 have hl1 : (lo : Int) ≤ (n : Int) := by omega
 have hl2 : (n : Int) ≤ (d : Int) := by omega
 by_cases h : lo = d
 ·subst h
  refine ⟨some ⟨b, o, none⟩, fun W => ?_, fun h => absurd h (by omega)⟩
  go_simp
 ·refine ⟨some ⟨b, o + lo * 3, none⟩, fun W => ?_, fun _ => rfl⟩
  go_simp
  exact fun e => absurd e.symm h
theorem rdV_take {w : World} {A : Option Addr} {l : List Vl} {n : Nat} (h : Rd w [] 3 A l.length (vsCells l)) (hn : n ≤ l.length) : Rd w [] 3 A n (vsCells (l.take n)) := by
 refine ⟨by rw [vsCells_length, List.length_take, Nat.min_eq_left hn], fun h0 => ?_⟩
 obtain ⟨ad, e, hb, hlt, hc⟩ := h.2 (by omega)
 refine ⟨ad, e, hb, hlt, fun j u hu => hc j u ?_⟩
 have e2 : vsCells l = vsCells (l.take n) ++ vsCells (l.drop n) := by
  rw [← vsCells_append, List.take_append_drop]
 rw [e2, List.getElem?_append_left (List.getElem?_eq_some_iff.1 hu).1]
 exact hu
theorem rdV_drop {w : World} {b o : Nat} {l : List Vl} {n : Nat} {A : Option Addr} (h : Rd w [] 3 (some ⟨b, o, none⟩) l.length (vsCells l)) (hn : n ≤ l.length) (hA : n < l.length → A = some ⟨b, o + n * 3, none⟩) : Rd w [] 3 A (l.length - n) (vsCells (l.drop n)) := by
 refine ⟨by rw [vsCells_length, List.length_drop], fun h0 => ?_⟩
 obtain ⟨ad, e, hb, hlt, hc⟩ := h.2 (by omega)
 injection e with e
 subst e
 refine ⟨_, hA (by omega), hb, hlt, fun j u hu => ?_⟩
 have e2 : vsCells l = vsCells (l.take n) ++ vsCells (l.drop n) := by
  rw [← vsCells_append, List.take_append_drop]
 have hl : (vsCells (l.take n)).length = n * 3 := by rw [vsCells_length, List.length_take, Nat.min_eq_left hn]
 have := hc (n * 3 + j) u (by
  rw [e2, List.getElem?_append_right (by rw [hl]; omega), hl, Nat.add_sub_cancel_left]
  exact hu)
 rw [add_at] at this ⊢
 rw [show o + n * 3 + j = o + (n * 3 + j) by omega]
 exact this
def pairR (m : Nat) (x z : List Vl) : List Vl := x ++ z.take m ++ z.drop (m + 1)
theorem pairR_len {m : Nat} {x z : List Vl} (h : m < z.length) : (pairR m x z).length = x.length + m + (z.length - (m + 1)) := by
 unfold pairR
 rw [List.length_append, List.length_append, List.length_take, List.length_drop, Nat.min_eq_left (Nat.le_of_lt h)]
def pairsOf (k m : Nat) (x : List Vl) (b : List (List Vl)) : List (List Vl) := (b.filter fun y => decide (x.getD k zV = y.getD m zV)).map (pairR m x)
theorem pairsOf_succ (k m : Nat) (x : List Vl) (b : List (List Vl)) (i : Nat) (h : i < b.length) : pairsOf k m x (b.take (i + 1)) = pairsOf k m x (b.take i) ++ (if x.getD k zV = b[i].getD m zV then [pairR m x b[i]] else []) := by
 unfold pairsOf
 rw [List.take_succ_eq_append_getElem h, List.filter_append, List.map_append]
 congr 1
 by_cases he : x.getD k zV = b[i].getD m zV
 ·rw [if_pos he, List.filter_cons_of_pos (p := fun y : List Vl => decide (x.getD k zV = y.getD m zV)) (decide_eq_true he)]; rfl
 ·rw [if_neg he, List.filter_cons_of_neg (p := fun y : List Vl => decide (x.getD k zV = y.getD m zV)) (by simpa using he)]; rfl
theorem pairsOf_len (k m : Nat) (x : List Vl) (b : List (List Vl)) : (pairsOf k m x b).length ≤ b.length := by
 unfold pairsOf
 rw [List.length_map]
 exact List.length_filter_le _ _
theorem pairsJ_len (k m : Nat) (a b : List (List Vl)) : (pairsJ k m a b).length ≤ a.length * b.length := by
 induction a with
 | nil => simp [pairsJ]
 | cons x a ih =>
  have e : pairsJ k m (x :: a) b = pairsOf k m x b ++ pairsJ k m a b := rfl
  rw [e, List.length_append, List.length_cons, Nat.succ_mul]
  have := pairsOf_len k m x b
  omega
theorem pairs_succ (k m : Nat) (a b : List (List Vl)) (i : Nat) (h : i < a.length) : pairsJ k m (a.take (i + 1)) b = pairsJ k m (a.take i) b ++ pairsOf k m a[i] b := by
 unfold pairsJ
 rw [List.take_succ_eq_append_getElem h, List.flatMap_append]
 simp only [List.flatMap_cons, List.flatMap_nil, List.append_nil]
 rfl
theorem cat3V (x z : List Vl) (m : Nat) (hm : m < z.length) (hx : x.length ≤ 4294967) (hz : z.length ≤ 4294967) (bx ox cx bz oz cz dz : Nat) (Az : Option Addr) (y W : World) (q : Keeps [] y W) (hX : Rd y [] 3 (some ⟨bx, ox, none⟩) x.length (vsCells x)) (h1 : Rd y [] 3 (some ⟨bz, oz, none⟩) m (vsCells (z.take m))) (h2 : Rd y [] 3 Az (z.length - (m + 1)) (vsCells (z.drop (m + 1)))) (g : Nat) (hr : Blk W g 41 #[.slice (some ⟨bx, ox, none⟩) x.length cx, .slice (some ⟨bz, oz, none⟩) m cz, .slice Az (z.length - (m + 1)) dz]) :
  Calls Tryz.prog 95 #[.slice (some ⟨g, 0, none⟩) 3 3] W fun e w' => (∃ v, e = .returned v ∧ w'.ownsRow W.heap.size 32 3 v (pairR m x z).length (vsCells (pairR m x z))) ∧ Keeps [] W w' := by
 have h := concatV_any [(x.length, vsCells x), (m, vsCells (z.take m)), (z.length - (m + 1), vsCells (z.drop (m + 1)))] [.slice (some ⟨bx, ox, none⟩) x.length cx, .slice (some ⟨bz, oz, none⟩) m cz, .slice Az (z.length - (m + 1)) dz] (some ⟨g, 0, none⟩) 3 W rfl ⟨rfl, fun _ => ⟨_, rfl, by simp, hr.lt, fun j u hu => by rw [add_at, Nat.zero_add, hr.cell j]; simpa using hu⟩⟩ (fun i hi hi' => by
  match i, hi with
  | 0, _ => exact ⟨_, _, rfl, hX.keep q⟩
  | 1, _ => exact ⟨_, _, rfl, h1.keep q⟩
  | 2, _ => exact ⟨_, _, rfl, h2.keep q⟩) (by simp) (by simp [totN]; omega) (fun p hp x hx => by
  simp only [List.mem_cons, List.not_mem_nil, or_false] at hp
  rcases hp with rfl | rfl | rfl <;> exact vs_oneCell _ x hx)
 have e1 : totN [(x.length, vsCells x), (m, vsCells (z.take m)), (z.length - (m + 1), vsCells (z.drop (m + 1)))] 3 = (pairR m x z).length := by
  rw [pairR_len hm]
  simp [totN]
  omega
 have e2 : catV [(x.length, vsCells x), (m, vsCells (z.take m)), (z.length - (m + 1), vsCells (z.drop (m + 1)))] 3 = vsCells (pairR m x z) := by
  unfold pairR vsCells
  simp [catV]
 rw [← e1, ← e2]
 exact h
set_option maxHeartbeats 8000000 in
set_option maxRecDepth 100000 in
theorem pairs_any (a b' : Tb) (n1 n2 : Bs) (k m : Nat) (hk : colIx a.cols n1 = some k) (hm : colIx b'.cols n2 = some m) (at_ code retry lk ln rk rn : Int) (no : Nat) (op lc lw rc rw' : Bs) (Ao : Option Addr) (co : Nat) (Ai : Option Addr) (ni ci : Nat) (bc oc : Nat) (cc : Nat) (A B : Option Addr) (c d : Nat) (A2 B2 : Option Addr) (c2 d2 : Nat) (w : World)
  (s0 : w.cell? ⟨bc, oc, none⟩ = some (.string (bs n1))) (s1 : w.cell? ⟨bc, oc + 1, none⟩ = some (.string (bs n2))) (hT : TabIn w a A B c d) (hU : TabIn w b' A2 B2 c2 d2) (hra : ∀ r ∈ a.rows, r.length = a.cols.length) (hrb : ∀ r ∈ b'.rows, r.length = b'.cols.length) (hla : a.cols.length ≤ 100) (hlb : b'.cols.length ≤ 100) (hna : a.rows.length ≤ 100) (hnb : b'.rows.length ≤ 100) :
  Calls Tryz.prog 70 #[.agg #[.int .i64 at_, .int .i64 code, .slice Ao no co, .slice Ai ni ci, .slice (some ⟨bc, oc, none⟩) 2 cc, .string (bs op), .string (bs lc), .int .i64 lk, .int .i64 ln, .string (bs lw), .string (bs rc), .int .i64 rk, .int .i64 rn, .string (bs rw'), .int .i64 retry], .agg #[.slice A a.cols.length c, .slice B a.rows.length d], .agg #[.slice A2 b'.cols.length c2, .slice B2 b'.rows.length d2]] w fun e w' => (∃ v, e = .returned v ∧ RowsIs w' v (pairsJ k m a.rows b'.rows)) ∧ Keeps [] w w' := by
 obtain ⟨ir, hir, hrz0, hrz1, hrz2⟩ := info_parts rinfo
 have HF1 : Hid (∀ W, Keeps [] w W → Calls Tryz.prog 66 #[.slice A a.cols.length c, .string (bs n1)] W fun e W' => e = .returned (.int .i64 (k : Int)) ∧ Keeps [] W W') := Lib.hid fun W q => by
  have h := find_any a.cols n1 A c W (hT.cols.keep q) hT.ln
  rw [hk] at h
  exact h
 have HF2 : Hid (∀ W, Keeps [] w W → Calls Tryz.prog 66 #[.slice A2 b'.cols.length c2, .string (bs n2)] W fun e W' => e = .returned (.int .i64 (m : Int)) ∧ Keeps [] W W') := Lib.hid fun W q => by
  have h := find_any b'.cols n2 A2 c2 W (hU.cols.keep q) hU.ln
  rw [hm] at h
  exact h
 have hkl : k < a.cols.length := (List.findIdx?_eq_some_iff_getElem.1 hk).1
 have hml : m < b'.cols.length := (List.findIdx?_eq_some_iff_getElem.1 hm).1
 have HT := Lib.hid hT
 have HU := Lib.hid hU
 have HRA := Lib.hid hra
 have HRB := Lib.hid hrb
 have HS0 := Lib.hid s0
 have HS1 := Lib.hid s1
 obtain ⟨w2, hw2⟩ : ∃ w2, (((w.alloc (.cells #[.int .i64 at_, .int .i64 code, .slice Ao no co, .slice Ai ni ci, .slice (some ⟨bc, oc, none⟩) 2 cc, .string (bs op), .string (bs lc), .int .i64 lk, .int .i64 ln, .string (bs lw), .string (bs rc), .int .i64 rk, .int .i64 rn, .string (bs rw'), .int .i64 retry] 36)).alloc (.cells #[.slice A a.cols.length c, .slice B a.rows.length d] 25)).alloc (.cells #[.slice A2 b'.cols.length c2, .slice B2 b'.rows.length d2] 25)) = w2 := ⟨_, rfl⟩
 have HK0 : Hid (Keeps [] w w2) := Lib.hid (by rw [← hw2]; exact (((Keeps.refl _ _).alloc _).alloc _).alloc _)
 have HBJ : Hid (Blk w2 w.heap.size 36 #[.int .i64 at_, .int .i64 code, .slice Ao no co, .slice Ai ni ci, .slice (some ⟨bc, oc, none⟩) 2 cc, .string (bs op), .string (bs lc), .int .i64 lk, .int .i64 ln, .string (bs lw), .string (bs rc), .int .i64 rk, .int .i64 rn, .string (bs rw'), .int .i64 retry]) := Lib.hid (by rw [← hw2]; exact ((Blk.new _ _ _).alloc _).alloc _)
 have HBA : Hid (Blk w2 (w.heap.size + 1) 25 #[.slice A a.cols.length c, .slice B a.rows.length d]) := Lib.hid (by
  rw [← hw2]
  have h := Blk.new (w.alloc (.cells #[.int .i64 at_, .int .i64 code, .slice Ao no co, .slice Ai ni ci, .slice (some ⟨bc, oc, none⟩) 2 cc, .string (bs op), .string (bs lc), .int .i64 lk, .int .i64 ln, .string (bs lw), .string (bs rc), .int .i64 rk, .int .i64 rn, .string (bs rw'), .int .i64 retry] 36)) 25 #[.slice A a.cols.length c, .slice B a.rows.length d]
  rw [size_alloc] at h
  exact h.alloc _)
 have HBB : Hid (Blk w2 (w.heap.size + 1 + 1) 25 #[.slice A2 b'.cols.length c2, .slice B2 b'.rows.length d2]) := Lib.hid (by
  rw [← hw2]
  have h := Blk.new ((w.alloc (.cells #[.int .i64 at_, .int .i64 code, .slice Ao no co, .slice Ai ni ci, .slice (some ⟨bc, oc, none⟩) 2 cc, .string (bs op), .string (bs lc), .int .i64 lk, .int .i64 ln, .string (bs lw), .string (bs rc), .int .i64 rk, .int .i64 rn, .string (bs rw'), .int .i64 retry] 36)).alloc (.cells #[.slice A a.cols.length c, .slice B a.rows.length d] 25)) 25 #[.slice A2 b'.cols.length c2, .slice B2 b'.rows.length d2]
  rw [size_alloc, size_alloc] at h
  exact h)
 have HW := Lib.hid hw2
 clear hT hU hra hrb hw2 s0 s1
 go_enter Tryz.func70, Tryz.ntmps70
 go_upto_region 1 with (fail)
 rw [HW.out]
 have y4 : w2.cell? ⟨w.heap.size, 4, none⟩ = some (.slice (some ⟨bc, oc, none⟩) 2 cc) := HBJ.out.cell 4
 have e0 := HK0.out.cell_of HS0.out (by simp)
 have e1 := HK0.out.cell_of HS1.out (by simp)
 have a0 : w2.cell? ⟨w.heap.size + 1, 0, none⟩ = some (.slice A a.cols.length c) := HBA.out.cell 0
 have b0 : w2.cell? ⟨w.heap.size + 1 + 1, 0, none⟩ = some (.slice A2 b'.cols.length c2) := HBB.out.cell 0
 have hz1 : w.heap.size < w2.heap.size := HBJ.out.lt
 have hz2 : bc < w2.heap.size := World.block_lt_of_cell? _ _ e0
 have hz3 : w.heap.size + 1 < w2.heap.size := HBA.out.lt
 have hz4 : w.heap.size + 1 + 1 < w2.heap.size := HBB.out.lt
 have HF1' := Lib.hid (fun W (q : Keeps [] w2 W) => HF1.out W (HK0.out.trans q))
 have HF2' := Lib.hid (fun W (q : Keeps [] w2 W) => HF2.out W (HK0.out.trans q))
 clear HF1 HF2 HW HS0 HS1
 generalize w.heap.size = bx at *
 refine wp_region_keeps (by kernel_rfl) (by kernel_rfl) ?_
 repeat (go_big_quiet_step (first | with_reducible exact KW.of HF1'.out _ | with_reducible exact KW.of HF2'.out _))
 refine wpQuiet_nil ?_
 intro w3 hk3
 have HK3 := Lib.hid (HK0.out.trans hk3)
 have HBA3 := Lib.hid (HBA.out.keep hk3 (by simp))
 have HBB3 := Lib.hid (HBB.out.keep hk3 (by simp))
 clear hk3 y4 e0 e1 a0 b0 hz1 hz2 hz3 hz4 HF1' HF2' HBJ HBA HBB HK0
 have a1 : w3.cell? ⟨bx + 1, 1, none⟩ = some (.slice B a.rows.length d) := HBA3.out.cell 1
 have hza : bx + 1 < w3.heap.size := HBA3.out.lt
 go_wp2_with fail
 clear a1 hza
 go_loopw [9, 31] (fun u i wx => ∃ (n : Nat) (v : Value), v = u ∧ n ≤ a.rows.length ∧ i = .int .i64 n ∧ Hid (Rws wx w3.heap.size v (pairsJ k m (a.rows.take n) b'.rows)) ∧ Hid (Keeps [] w3 wx)) (fun _ i _ => a.rows.length - (intOf i).toNat)
 case atStart => exact ⟨0, _, rfl, Nat.zero_le _, rfl, Lib.hid (Rws.nil _ _), Lib.hid (Keeps.refl _ _)⟩
 case round =>
  obtain ⟨n, v, rfl, hn, rfl, HG, HK⟩ := hrel
  obtain ⟨y, rfl⟩ : ∃ z : World, z = wr := ⟨_, rfl⟩
  by_cases hlt : n < a.rows.length
  ·obtain ⟨us, hul, hur, hui⟩ := HT.out.rows
   have hux : n < us.length := by omega
   have hrw := hui n hux hlt
   obtain ⟨b7, o7, hBe, _, hb7, hcs⟩ := hur.open' (by omega) (by omega)
   subst hBe
   have d7 := hcs (n * 1) us[n] (by rw [Nat.mul_one]; exact List.getElem?_eq_getElem hux)
   rw [Nat.mul_one] at d7
   have HSN := Lib.hid (pairs_succ k m a.rows b'.rows n hlt)
   have hrr := HRA.out _ (List.getElem_mem hlt)
   generalize a.rows[n] = x at *
   obtain ⟨Ax, cx, hu, hcx, hxd⟩ := hrw
   rw [hu] at d7
   obtain ⟨bX, oX, rfl, _, hbX, hxc⟩ := hxd.open' (by omega) (by omega)
   have HXD := Lib.hid hxd
   have HXL := Lib.hid hrr
   have hkx : k < x.length := by omega
   obtain ⟨x0, x1, x2⟩ := vsCells_at x k hkx
   have f0 := hxc _ _ x0
   have f1 := hxc _ _ x1
   have f2 := hxc _ _ x2
   rw [← Nat.add_assoc] at f1 f2
   have HFX := Lib.hid (And.intro f0 (And.intro f1 f2))
   have HGX : Hid (x.getD k zV = x[k]) := Lib.hid (by rw [List.getD_eq_getElem?_getD, List.getElem?_eq_getElem hkx]; rfl)
   generalize x[k] = vx at *
   obtain ⟨vxk, vxn, vxw⟩ := vx
   have d8 := (HK3.out.trans HK.out).cell_of d7 (by simp)
   have b1 : y.cell? ⟨bx + 1 + 1, 1, none⟩ = some (.slice B2 b'.rows.length d2) := (HBB3.out.keep HK.out (by simp)).cell 1
   have hzb : bx + 1 + 1 < y.heap.size := (HBB3.out.keep HK.out (by simp)).lt
   clear d7 hcs hul hur hui hu hxd x0 x1 x2 f0 f1 f2 hxc hrr
   go_wp2_with fail
   clear b1 hzb
   go_loopw [9, 38] (fun u i wx => ∃ (n2 : Nat) (v : Value), v = u ∧ n2 ≤ b'.rows.length ∧ i = .int .i64 n2 ∧ Hid (Rws wx w3.heap.size v (pairsJ k m (a.rows.take n) b'.rows ++ pairsOf k m x (b'.rows.take n2))) ∧ Hid (Keeps [] w3 wx)) (fun _ i _ => b'.rows.length - (intOf i).toNat)
   case atStart => exact ⟨0, _, rfl, Nat.zero_le _, rfl, Lib.hid (by rw [List.take_zero]; simpa [pairsOf] using HG.out), HK⟩
   case round =>
    clear HG
    obtain ⟨n2, v2, rfl, hn2, rfl, HG2, HK2⟩ := hrel
    obtain ⟨u, rfl⟩ : ∃ z : World, z = wr := ⟨_, rfl⟩
    have HKU := Lib.hid (HK3.out.trans HK2.out)
    by_cases hlt2 : n2 < b'.rows.length
    ·obtain ⟨us, hul, hur, hui⟩ := HU.out.rows
     have hux : n2 < us.length := by omega
     have hrw := hui n2 hux hlt2
     obtain ⟨b8, o8, hBe, _, hb8, hcs⟩ := hur.open' (by omega) (by omega)
     subst hBe
     have d7 := hcs (n2 * 1) us[n2] (by rw [Nat.mul_one]; exact List.getElem?_eq_getElem hux)
     rw [Nat.mul_one] at d7
     have HSZ := Lib.hid (pairsOf_succ k m x b'.rows n2 hlt2)
     have hrr := HRB.out _ (List.getElem_mem hlt2)
     generalize b'.rows[n2] = z at *
     obtain ⟨Az, cz, hu, hcz, hzd⟩ := hrw
     rw [hu] at d7
     obtain ⟨bZ, oZ, rfl, _, hbZ, hzc⟩ := hzd.open' (by omega) (by omega)
     have hmz : m < z.length := by omega
     obtain ⟨x0, x1, x2⟩ := vsCells_at z m hmz
     have g0 := HKU.out.cell_of (hzc _ _ x0) (by simp)
     have g1 := HKU.out.cell_of (hzc _ _ x1) (by simp)
     have g2 := HKU.out.cell_of (hzc _ _ x2) (by simp)
     rw [← Nat.add_assoc] at g1 g2
     have hgz : z.getD m zV = z[m] := by rw [List.getD_eq_getElem?_getD, List.getElem?_eq_getElem hmz]; rfl
     rw [hgz, HGX.out] at HSZ
     generalize z[m] = vz at *
     obtain ⟨vzk, vzn, vzw⟩ := vz
     have f0 := HKU.out.cell_of HFX.out.1 (by simp)
     have f1 := HKU.out.cell_of HFX.out.2.1 (by simp)
     have f2 := HKU.out.cell_of HFX.out.2.2 (by simp)
     have d8 := HKU.out.cell_of d7 (by simp)
     have hbX' := Nat.lt_of_lt_of_le hbX HKU.out.size
     have hbZ' := Nat.lt_of_lt_of_le hbZ HKU.out.size
     have hi1 : (0 : Int) ≤ (k : Int) := by omega
     have hi2 : (k : Int) < (x.length : Int) := by have := HXL.out; omega
     have hi3 : (0 : Int) ≤ (m : Int) := by omega
     have hi4 : (m : Int) < (z.length : Int) := by omega
     have HZD := Lib.hid hzd
     have HMZ := Lib.hid (And.intro hmz hrr)
     have HHC := Lib.hid (And.intro hcz hcx)
     clear d7 hcs hul hur hui hu hzd x0 x1 x2 hzc hgz hrr hmz
     by_cases he : (⟨vxk, vxn, vxw⟩ : Vl) = ⟨vzk, vzn, vzw⟩
     ·have hq : ∀ W, (binOp .eql 32 (.agg #[.int .i64 vxk, .int .i64 vxn, .string (bs vxw)]) (.agg #[.int .i64 vzk, .int .i64 vzn, .string (bs vzw)])).run Tryz.prog W = .ok (.bool true) W := fun W => by rw [vEql, decide_eq_true he]
      rw [if_pos he] at HSZ
      clear he
      go_upto_region 9 with (fail)
      refine wp_region_keeps (by kernel_rfl) (by kernel_rfl) ?_
      repeat (go_big_quiet_step (fail))
      refine wpQuiet_nil ?_
      intro w5 hk5
      have HK5 := Lib.hid (HK2.out.trans hk5)
      have HG5 := Lib.hid (HG2.out.keep hk5)
      clear f0 f1 f2 g0 g1 g2 d8 hq hk5 HG2 HKU
      have HKW5 := Lib.hid (HK3.out.trans HK5.out)
      have hsl1 := slice_toV (some ⟨bZ, oZ, none⟩) z.length cz m (by have := HMZ.out.1; have := HHC.out.1; omega)
      obtain ⟨A5, hsl2, hA5⟩ := slice_fromV bZ oZ z.length cz (m + 1) (by have := HMZ.out.1; omega) HHC.out.1
      have hcast : ((m + 1 : Nat) : Int) = (m : Int) + 1 := by omega
      have hwr : IntKind.i64.wrap ((m : Int) + 1) = (m : Int) + 1 := by simp [IntKind.wrap, IntKind.bits, IntKind.signed]; omega
      rw [hcast] at hsl2
      have HCC := Lib.hid (fun W g (q : Keeps [] w5 W) hr => cat3V x z m HMZ.out.1 (by have := HXL.out; omega) (by have := HMZ.out.2; omega) bX oX cx bZ oZ cz (cz - (m + 1)) A5 w5 W q (HXD.out.keep HKW5.out) (rdV_take (HZD.out.keep HKW5.out) (Nat.le_of_lt HMZ.out.1)) (rdV_drop (HZD.out.keep HKW5.out) HMZ.out.1 (fun h => hA5 (by have := HHC.out.1; omega))) g hr)
      have hNl : (pairsJ k m (a.rows.take n) b'.rows ++ pairsOf k m x (b'.rows.take n2)).length ≤ 10100 := by
       have h1 := pairsJ_len k m (a.rows.take n) b'.rows
       have h2 := pairsOf_len k m x (b'.rows.take n2)
       have h3 : (a.rows.take n).length * b'.rows.length ≤ 100 * 100 := Nat.mul_le_mul (by rw [List.length_take]; omega) hnb
       rw [List.length_take] at h2
       rw [List.length_append]
       omega
      have HSN2 : Hid (pairsJ k m (a.rows.take n) b'.rows ++ pairsOf k m x (b'.rows.take (n2 + 1)) = (pairsJ k m (a.rows.take n) b'.rows ++ pairsOf k m x (b'.rows.take n2)) ++ [pairR m x z]) := Lib.hid (by rw [HSZ.out, List.append_assoc])
      generalize pairsJ k m (a.rows.take n) b'.rows ++ pairsOf k m x (b'.rows.take n2) = PP at *
      obtain ⟨hs, hsl, hso, hsi⟩ := HG5.out
      have HO := Lib.hid hso
      have HSI := Lib.hid hsi
      have HSL := Lib.hid hsl
      have HSZ3 := Lib.hid HK5.out.size
      generalize pairR m x z = PR at *
      have hbd := Lib.hid (show PP.length + 1 ≤ maxLen ∧ (PP.length + 1) * 24 ≤ 140737488355328 by simp only [maxLen]; omega)
      clear hso hsi hsl HSZ hNl hA5 HXD HZD HMZ HHC HXL HGX HFX
      go_upto_region 10 with (fail)
      go_region_law (first | (refine step_append_lies _ (by rfl) _ _ _ (by rfl) w3.heap.size 41 ir _ 1 24 Tryz.underlying23 hir hrz0 hrz1 hrz2 rfl (by decide) v2 PP.length hs (by rfl) ((own_keep HO.out kk6 (fun _ _ => by simp)).alloc _) ⟨w6.heap.size, 0, none⟩ 1 1 [.slice Aq PR.length cq] (by rfl) rfl (World.news_of_block (heap_alloc_new _ _)) (by simp [Value.oneCell']) (by decide) hbd.out.1 hbd.out.2 (by have := HSZ3.out; have := kk6.size; simp; omega) _ rfl ?_; intro gw cap2 w8 hown8 hgrow8 hat8 hlt8) | (go_simp; go_at_call 95; refine (HCC.out _ _ ((Keeps.refl [] w5).alloc _).drew (Blk.new _ _ _).drew).mono ?_; rintro e w6 ⟨⟨vq, rfl, hq⟩, hk6⟩; obtain ⟨Aq, cq, rfl, -⟩ := own_form hq; have kk6 : Keeps [] w5 w6 := ((Keeps.refl [] w5).alloc _).drew.trans hk6))
      all_goals
       have HK8 := Lib.hid (((HK5.out.trans kk6).alloc (.cells #[.slice Aq PR.length cq] 41)).grown hgrow8 (fun g hg => .inr (HO.out.lt g hg).1))
       have HGN : Hid (Rws w8 w3.heap.size (.slice (some ⟨gw, 0, none⟩) (PP.length + 1) cap2) (pairsJ k m (a.rows.take n) b'.rows ++ pairsOf k m x (b'.rows.take (n2 + 1)))) := Lib.hid (by
        rw [HSN2.out]
        exact rws_snoc (W := w6) HSL.out (fun i a c => own_keep (HSI.out i a c) kk6 (fun _ _ => by simp)) (own_keep HO.out kk6 (fun _ _ => by simp)) (own_base hq (by have := HSZ3.out; simp; omega)) hgrow8 hown8)
       clear hown8 hgrow8 hat8 hlt8 kk6 hk6 hq
       go_wp2
       go_roundw
       case rel => exact ⟨n2 + 1, _, rfl, by omega, by go_num, HGN, HK8⟩
       case measure => simp [intOf]; omega
     ·have hq : ∀ W, (binOp .eql 32 (.agg #[.int .i64 vxk, .int .i64 vxn, .string (bs vxw)]) (.agg #[.int .i64 vzk, .int .i64 vzn, .string (bs vzw)])).run Tryz.prog W = .ok (.bool false) W := fun W => by rw [vEql, decide_eq_false he]
      rw [if_neg he, List.append_nil] at HSZ
      clear he
      go_upto_region 9 with (fail)
      refine wp_region_keeps (by kernel_rfl) (by kernel_rfl) ?_
      repeat (go_big_quiet_step (fail))
      refine wpQuiet_nil ?_
      intro w5 hk5
      have HK5 := Lib.hid (HK2.out.trans hk5)
      have HG5 : Hid (Rws w5 w3.heap.size v2 (pairsJ k m (a.rows.take n) b'.rows ++ pairsOf k m x (b'.rows.take (n2 + 1)))) := Lib.hid (by rw [HSZ.out]; exact HG2.out.keep hk5)
      clear f0 f1 f2 g0 g1 g2 d8 hq hk5 HG2
      go_wp2
      go_roundw
      case rel => exact ⟨n2 + 1, _, rfl, by omega, by go_num, HG5, HK5⟩
      case measure => simp [intOf]; omega
    ·obtain rfl : n2 = b'.rows.length := by omega
     have HG5 : Hid (Rws u w3.heap.size v2 (pairsJ k m (a.rows.take (n + 1)) b'.rows)) := Lib.hid (by
      have h := HG2.out
      rw [List.take_length] at h
      rw [HSN.out]
      exact h)
     clear HG2
     go_wp2
     go_roundw
     case rel => exact ⟨n + 1, _, rfl, by omega, by go_num, HG5, HK2⟩
     case measure => simp [intOf]; omega
  ·obtain rfl : n = a.rows.length := by omega
   have hg := HG.out
   rw [List.take_length] at hg
   have HKF := Lib.hid (HK3.out.trans HK.out)
   obtain ⟨Bq, dq, hv, hdq, hrd⟩ := hg.rd
   have HRI : Hid (RowsIs y v (pairsJ k m a.rows b'.rows)) := Lib.hid ⟨Bq, dq, hv, hdq, hrd⟩
   clear hg hdq hrd HG hv
   go_wp2
   go_ret
   exact ⟨⟨_, rfl, HRI.out⟩, HKF.out⟩
end Go.Proofs.YtpfkjejknlkkoaaGreatDoor
namespace Go.Proofs.YtpfkjejknlkkoaaGreatDoor
open Go.RowKit
def leftN (L : Nat → Bool) (n : Nat) : Nat := (List.range n).countP fun i => !L i
theorem leftN_zero {L : Nat → Bool} {n : Nat} (h : leftN L n = 0) : ∀ i, i < n → L i = true := by
 intro i hi
 have h1 := List.countP_eq_zero.1 h i (List.mem_range.2 hi)
 simpa using h1
def updL (L : Nat → Bool) (i : Nat) : Nat → Bool := fun j => if j = i then true else L j
theorem leftN_upd {L : Nat → Bool} {i : Nat} (hL : L i = false) : ∀ {n : Nat}, i < n → leftN (updL L i) n + 1 = leftN L n
 | 0, h => absurd h (by omega)
 | n + 1, h => by
  have e : ∀ M : Nat → Bool, leftN M (n + 1) = leftN M n + if M n then 0 else 1 := fun M => by
   unfold leftN
   rw [List.range_succ, List.countP_append, List.countP_singleton]
   cases hm : M n <;> simp
  rw [e, e]
  by_cases hi : i = n
  ·subst hi
   have e2 : leftN (updL L i) i = leftN L i := by
    unfold leftN
    refine List.countP_congr fun x hx => ?_
    have := List.mem_range.1 hx
    unfold updL
    rw [if_neg (by omega)]
   rw [e2, hL]
   simp [updL]
  ·have ih := leftN_upd hL (n := n) (by omega)
   have e3 : updL L i n = L n := by unfold updL; rw [if_neg (fun h => hi h.symm)]
   rw [e3]
   omega
def Agrees (ops : Array Oper) (listed : Array Bool) (L : Nat → Bool) : Prop := listed.size = ops.size ∧ ∀ i, i < ops.size → listed[i]? = some (L i)
theorem Agrees.set {ops : Array Oper} {listed : Array Bool} {L : Nat → Bool} (h : Agrees ops listed L) {i : Nat} (_hi : i < ops.size) : Agrees ops (listed.setIfInBounds i true) (updL L i) := by
 refine ⟨by rw [Array.size_setIfInBounds]; exact h.1, fun j hj => ?_⟩
 rw [Array.getElem?_setIfInBounds]
 unfold updL
 by_cases hij : i = j
 ·subst hij
  rw [if_pos rfl, if_pos (by rw [h.1]; exact hj), if_pos rfl]
 ·rw [if_neg hij, if_neg (fun e => hij e.symm)]
  exact h.2 j hj
theorem Agrees.get {ops : Array Oper} {listed : Array Bool} {L : Nat → Bool} (h : Agrees ops listed L) {i : Nat} (hi : i < ops.size) (d : Bool) : listed.getD i d = L i := by
 have := h.2 i hi
 rw [Array.getD_eq_getD_getElem?, this]
 rfl
section
variable {P : Program} {ops : Array Oper} {Q : Exit → Act → World → Prop}
theorem wpOp_val {i : Nat} {o : Oper} {a : Act} {w w' : World} {u : Value} {K : Act → World → Prop} (ho : ops[i]? = some o) (hg : o.guard = none) (hr : (execOp a.eval o).run P w = .ok (.value u) w') (hK : K (a.put o.dst u) w') : wpOp P ops Q i K a w := by
 unfold wpOp
 simp only [ho]
 rw [if_pos (by unfold Region.wanted; rw [hg])]
 left
 unfold Oper.wp
 rw [hr]
 exact hK
theorem wpOp_skip {i : Nat} {o : Oper} {a : Act} {w w' : World} {K : Act → World → Prop} (ho : ops[i]? = some o) (hg : o.guard = none) (hr : (execOp a.eval o).run P w = .ok .skip w') (hK : K (a.put o.dst undef) w') : wpOp P ops Q i K a w := by
 unfold wpOp
 simp only [ho]
 rw [if_pos (by unfold Region.wanted; rw [hg])]
 left
 unfold Oper.wp
 rw [hr]
 exact hK
end
structure FitR (ops : Array Oper) (v : Nat → Value) (L : Nat → Bool) (a0 a : Act) : Prop where
 d : a.defers = a0.defers
 n : a.tmps.size = a0.tmps.size
 y : ∀ i o k, ops[i]? = some o → o.dst = some k → L i = true → a.tmps.getD k undef = v i
 z : ∀ k, (∀ i o, ops[i]? = some o → o.dst = some k → L i = false) → a.tmps.getD k undef = a0.tmps.getD k undef
def dstB (ops : Array Oper) (n : Nat) : Bool := (List.range ops.size).all fun i => match (ops[i]?).bind (·.dst) with
 | none => true
 | some k => decide (k < n) && (List.range ops.size).all fun j => decide (j = i) || decide ((ops[j]?).bind (·.dst) ≠ some k)
theorem dstB_at {ops : Array Oper} {n : Nat} (h : dstB ops n = true) {i : Nat} {o : Oper} {k : Nat} (ho : ops[i]? = some o) (hk : o.dst = some k) : k < n ∧ ∀ j o', ops[j]? = some o' → o'.dst = some k → j = i := by
 have hi : i < ops.size := (Array.getElem?_eq_some_iff.1 ho).1
 have h1 := List.all_eq_true.1 h i (List.mem_range.2 hi)
 simp only [ho, Option.bind_some, hk] at h1
 rw [Bool.and_eq_true] at h1
 refine ⟨of_decide_eq_true h1.1, fun j o' hj hk' => ?_⟩
 have hj' : j < ops.size := (Array.getElem?_eq_some_iff.1 hj).1
 have h2 := List.all_eq_true.1 h1.2 j (List.mem_range.2 hj')
 simp only [hj, Option.bind_some, hk'] at h2
 simpa using h2
theorem getD_put (t : Array Value) (d k : Nat) (u x : Value) (hd : d < t.size) : (t.setIfInBounds d u).getD k x = if k = d then u else t.getD k x := by
 rw [Array.getD_eq_getD_getElem?, Array.getD_eq_getD_getElem?, Array.getElem?_setIfInBounds]
 by_cases h : d = k
 ·subst h
  rw [if_pos rfl, if_pos hd, if_pos rfl]
  rfl
 ·rw [if_neg h, if_neg (fun e => h e.symm)]
theorem FitR.start (ops : Array Oper) (v : Nat → Value) (a : Act) : FitR ops v (fun _ => false) a a := ⟨rfl, rfl, (fun _ _ _ _ _ h => by cases h), fun _ _ => rfl⟩
theorem FitR.put {ops : Array Oper} {v : Nat → Value} {L : Nat → Bool} {a0 a : Act} {i : Nat} {o : Oper} (h : FitR ops v L a0 a) (hb : dstB ops a0.tmps.size = true) (ho : ops[i]? = some o) : FitR ops v (updL L i) a0 (a.put o.dst (v i)) := by
 cases hd : o.dst with
 | none =>
  refine ⟨h.d, h.n, fun j o' k hj hk hL => ?_, fun k hz => ?_⟩
  ·refine h.y j o' k hj hk ?_
   unfold updL at hL
   split at hL
   ·rename_i e
    subst e
    rw [ho] at hj
    cases hj
    rw [hd] at hk
    cases hk
   ·exact hL
  ·refine h.z k fun j o' hj hk => ?_
   have := hz j o' hj hk
   unfold updL at this
   split at this
   ·cases this
   ·exact this
 | some k0 =>
  obtain ⟨hk0, huniq⟩ := dstB_at hb ho hd
  have hput : (a.put (some k0) (v i)).tmps = a.tmps.setIfInBounds k0 (v i) := rfl
  refine ⟨h.d, by rw [hput, Array.size_setIfInBounds]; exact h.n, fun j o' k hj hk hL => ?_, fun k hz => ?_⟩
  ·rw [hput, getD_put _ _ _ _ _ (by rw [h.n]; exact hk0)]
   by_cases hkk : k = k0
   ·subst hkk
    rw [if_pos rfl, huniq j o' hj hk]
   ·rw [if_neg hkk]
    refine h.y j o' k hj hk ?_
    unfold updL at hL
    split at hL
    ·rename_i e
     subst e
     rw [ho] at hj
     cases hj
     rw [hd] at hk
     cases hk
     exact absurd rfl hkk
    ·exact hL
  ·rw [hput, getD_put _ _ _ _ _ (by rw [h.n]; exact hk0)]
   by_cases hkk : k = k0
   ·have := hz i o ho (by rw [hkk]; exact hd)
    unfold updL at this
    rw [if_pos rfl] at this
    cases this
   ·rw [if_neg hkk]
    refine h.z k fun j o' hj hk => ?_
    have := hz j o' hj hk
    unfold updL at this
    split at this
    ·cases this
    ·exact this
theorem FitR.old {ops : Array Oper} {v : Nat → Value} {L : Nat → Bool} {a0 a : Act} (h : FitR ops v L a0 a) (k : Nat) (hk : (ops.any fun o => decide (o.dst = some k)) = false) : a.tmps.getD k undef = a0.tmps.getD k undef :=
 h.z k fun i o ho hd => by
  rw [Array.any_eq_false'] at hk
  exact absurd (decide_eq_true hd) (hk o (Array.mem_of_getElem? ho))
theorem FitR.congr {ops : Array Oper} {v v' : Nat → Value} {L : Nat → Bool} {a0 a : Act} (h : FitR ops v L a0 a) (e : ∀ i, L i = true → v i = v' i) : FitR ops v' L a0 a :=
 ⟨h.d, h.n, fun i o k ho hk hL => (h.y i o k ho hk hL).trans (e i hL), h.z⟩
def finT (ops : Array Oper) (v : Nat → Value) (a0 : Act) (k : Nat) : Value := match (List.range ops.size).find? fun i => decide ((ops[i]?).bind (·.dst) = some k) with
 | some i => v i
 | none => a0.tmps.getD k undef
theorem FitR.fin {ops : Array Oper} {v : Nat → Value} {L : Nat → Bool} {a0 a : Act} (h : FitR ops v L a0 a) (hall : ∀ i, i < ops.size → L i = true) : a = ⟨((List.range a0.tmps.size).map (finT ops v a0)).toArray, a0.defers⟩ := by
 obtain ⟨t, d⟩ := a
 have hd : d = a0.defers := h.d
 have hn : t.size = a0.tmps.size := h.n
 subst hd
 congr 1
 apply Array.ext
 ·simp [hn]
 ·intro k h1 h2
  simp only [List.getElem_toArray, List.getElem_map, List.getElem_range]
  have e : t[k] = t.getD k undef := by rw [Array.getD_eq_getD_getElem?, Array.getElem?_eq_getElem h1]; rfl
  rw [e]
  unfold finT
  cases hf : (List.range ops.size).find? fun i => decide ((ops[i]?).bind (·.dst) = some k) with
  | some i =>
   have h3 := List.find?_some hf
   have hi := List.mem_range.1 (List.mem_of_find?_eq_some hf)
   rw [decide_eq_true_iff] at h3
   obtain ⟨o, ho⟩ : ∃ o, ops[i]? = some o := ⟨_, Array.getElem?_eq_getElem hi⟩
   rw [ho, Option.bind_some] at h3
   exact h.y i o k ho h3 (hall i hi)
  | none =>
   refine h.z k fun i o ho hd => ?_
   have hi : i < ops.size := (Array.getElem?_eq_some_iff.1 ho).1
   have := List.find?_eq_none.1 hf i (List.mem_range.2 hi)
   rw [ho, Option.bind_some, hd] at this
   simp at this
def depB (ops : Array Oper) (i j : Nat) : Bool := ((ops[i]?).map fun o => o.after.any fun e => decide (e.on = j) && Region.binds .any e).getD false
theorem dep_at {ops : Array Oper} {L : Nat → Bool} {i : Nat} (h : ∀ o, ops[i]? = some o → ∀ e ∈ o.after, Region.binds .any e = true → L e.on = true) (j : Nat) (hj : depB ops i j = true) : L j = true := by
 unfold depB at hj
 cases ho : ops[i]? with
 | none => rw [ho] at hj; cases hj
 | some o =>
  rw [ho] at hj
  simp only [Option.map_some, Option.getD_some] at hj
  obtain ⟨e, he, h2⟩ := Array.any_eq_true'.1 hj
  rw [Bool.and_eq_true, decide_eq_true_iff] at h2
  have := h o ho e he h2.2
  rwa [h2.1] at this
def AllC (C : Nat → Prop) : Nat → Prop
 | 0 => True
 | n + 1 => AllC C n ∧ C n
theorem AllC.at {C : Nat → Prop} : ∀ {n : Nat}, AllC C n → ∀ i, i < n → C i
 | 0, _, i, hi => absurd hi (by omega)
 | n + 1, h, i, hi => by
  by_cases e : i = n
  ·subst e; exact h.2
  ·exact AllC.at h.1 i (by omega)
def StepC {G : Type} (P : Program) (ops : Array Oper) (Q : Exit → Act → World → Prop) (v : G → Nat → Value) (Wd : G → (Nat → Bool) → World → Prop) (a0 : Act) (i : Nat) : Prop :=
 dstB ops a0.tmps.size = true → ∀ g L a w, L i = false → (∀ j, depB ops i j = true → L j = true) → FitR ops (v g) L a0 a → Wd g L w → wpOp P ops Q i (fun a' w' => ∃ g', FitR ops (v g') (updL L i) a0 a' ∧ Wd g' (updL L i) w') a w
theorem fit_val {G : Type} {P : Program} {ops : Array Oper} {Q : Exit → Act → World → Prop} {v : G → Nat → Value} {Wd : G → (Nat → Bool) → World → Prop} {a0 a : Act} {w : World} {i : Nat} {g : G} {L : Nat → Bool} {o : Oper} (ho : ops[i]? = some o) (hb : dstB ops a0.tmps.size = true) (hg : o.guard = none) (hF : FitR ops (v g) L a0 a) (hW : Wd g (updL L i) w)
  (hr : (execOp a.eval o).run P w = .ok (.value (v g i)) w) : wpOp P ops Q i (fun a' w' => ∃ g', FitR ops (v g') (updL L i) a0 a' ∧ Wd g' (updL L i) w') a w := wpOp_val ho hg hr ⟨g, hF.put hb ho, hW⟩
end Go.Proofs.YtpfkjejknlkkoaaGreatDoor
namespace Go.Proofs.YtpfkjejknlkkoaaGreatDoor
open Go.RowKit
structure SR where
 A : Option Addr
 n : Nat
 c : Nat
 row : List Vl
def SR.v (x : SR) : Value := .slice x.A x.n x.c
def srCells (l : List SR) (rest : List Value) : Array Value := (l.map SR.v ++ rest).toArray
theorem sr_at (X Y : List SR) (x : SR) (rest : List Value) {i : Nat} (hi : i = X.length) : (srCells (X ++ x :: Y) rest)[i]? = some x.v := by
 subst hi
 simp [srCells, List.getElem?_append]
theorem sr_set (X Y : List SR) (x y : SR) (rest : List Value) {i : Nat} (hi : i = X.length) : (srCells (X ++ x :: Y) rest).setIfInBounds i y.v = srCells (X ++ y :: Y) rest := by
 subst hi
 unfold srCells
 rw [List.setIfInBounds_toArray]
 congr 1
 rw [List.map_append, List.map_append, List.append_assoc, List.append_assoc, List.set_append_right _ _ (by simp)]
 simp
theorem updL_up {L : Nat → Bool} {k q : Nat} (h : L q = true) : updL L k q = true := by
 unfold updL
 split
 ·rfl
 ·exact h
structure SwW (y : World) (G : Nat) (T : TypeId) (cur : Array Value) (i j : Nat) (u v : Value) (l1 l2 s1 s2 : Nat) (L : Nat → Bool) (w' : World) : Prop where
 d1 : L s1 = true → L l1 = true ∧ L l2 = true
 d2 : L s2 = true → L s1 = true
 p0 : L s1 = false → Keeps [] y w' ∧ Blk w' G T cur
 p1 : L s1 = true → L s2 = false → Keeps [G] y w' ∧ Blk w' G T (cur.setIfInBounds i u)
 p2 : L s2 = true → Keeps [G] y w' ∧ Blk w' G T ((cur.setIfInBounds i u).setIfInBounds j v)
section
variable {y : World} {G : Nat} {T : TypeId} {cur : Array Value} {i j : Nat} {u v : Value} {l1 l2 s1 s2 : Nat} {L : Nat → Bool} {w' : World}
theorem SwW.start (hb : Blk y G T cur) : SwW y G T cur i j u v l1 l2 s1 s2 (fun _ => false) y.drew :=
 ⟨(fun h => by cases h), (fun h => by cases h), fun _ => ⟨(Keeps.refl _ _).drew, hb.drew⟩, (fun h => by cases h), fun h => by cases h⟩
theorem SwW.far (h : SwW y G T cur i j u v l1 l2 s1 s2 L w') {k : Nat} (h1 : k ≠ s1) (h2 : k ≠ s2) : SwW y G T cur i j u v l1 l2 s1 s2 (updL L k) w' := by
 have e1 : updL L k s1 = L s1 := by unfold updL; rw [if_neg (Ne.symm h1)]
 have e2 : updL L k s2 = L s2 := by unfold updL; rw [if_neg (Ne.symm h2)]
 have up : ∀ q, L q = true → updL L k q = true := fun q hq => updL_up hq
 refine ⟨fun h' => ?_, fun h' => ?_, fun h' => ?_, fun h' h'' => ?_, fun h' => ?_⟩
 ·rw [e1] at h'; exact ⟨up _ (h.d1 h').1, up _ (h.d1 h').2⟩
 ·rw [e2] at h'; rw [e1]; exact h.d2 h'
 ·rw [e1] at h'; exact h.p0 h'
 ·rw [e1] at h'; rw [e2] at h''; exact h.p1 h' h''
 ·rw [e2] at h'; exact h.p2 h'
theorem SwW.ld1 (h : SwW y G T cur i j u v l1 l2 s1 s2 L w') (hL : L l1 = false) : Keeps [] y w' ∧ Blk w' G T cur := by
 refine h.p0 ?_
 cases hx : L s1 with
 | false => rfl
 | true => rw [(h.d1 hx).1] at hL; cases hL
theorem SwW.ld2 (h : SwW y G T cur i j u v l1 l2 s1 s2 L w') (hL : L l2 = false) : Keeps [] y w' ∧ Blk w' G T cur := by
 refine h.p0 ?_
 cases hx : L s1 with
 | false => rfl
 | true => rw [(h.d1 hx).2] at hL; cases hL
theorem SwW.b1 (h : SwW y G T cur i j u v l1 l2 s1 s2 L w') (hL : L s1 = false) (h1 : L l1 = true) (h2 : L l2 = true) (hs : s1 ≠ s2) : SwW y G T cur i j u v l1 l2 s1 s2 (updL L s1) (w'.setCell ⟨G, i, none⟩ u) := by
 obtain ⟨hk, hb⟩ := h.p0 hL
 have e1 : updL L s1 s1 = true := by unfold updL; rw [if_pos rfl]
 have e2 : updL L s1 s2 = L s2 := by unfold updL; rw [if_neg (Ne.symm hs)]
 have up : ∀ q, L q = true → updL L s1 q = true := fun q hq => updL_up hq
 have n2 : L s2 = false := by
  cases hx : L s2 with
  | false => rfl
  | true => rw [h.d2 hx] at hL; cases hL
 refine ⟨fun _ => ⟨up _ h1, up _ h2⟩, fun _ => e1, fun h' => ?_, fun _ _ => ⟨hk.of_nil.setCell (.inl (by simp)) _, hb.set i u⟩, fun h' => ?_⟩
 ·rw [e1] at h'; cases h'
 ·rw [e2, n2] at h'; cases h'
theorem SwW.b2 (h : SwW y G T cur i j u v l1 l2 s1 s2 L w') (hL : L s2 = false) (h1 : L s1 = true) (hs : s1 ≠ s2) : SwW y G T cur i j u v l1 l2 s1 s2 (updL L s2) (w'.setCell ⟨G, j, none⟩ v) := by
 obtain ⟨hk, hb⟩ := h.p1 h1 hL
 have e2 : updL L s2 s2 = true := by unfold updL; rw [if_pos rfl]
 have e1 : updL L s2 s1 = L s1 := by unfold updL; rw [if_neg hs]
 have up : ∀ q, L q = true → updL L s2 q = true := fun q hq => updL_up hq
 refine ⟨fun _ => ⟨up _ (h.d1 h1).1, up _ (h.d1 h1).2⟩, fun _ => up _ h1, fun h' => ?_, fun _ h' => ?_, fun _ => ⟨hk.setCell (.inl (by simp)) _, hb.set j v⟩⟩
 ·rw [e1, h1] at h'; cases h'
 ·rw [e2] at h'; cases h'
end
theorem sr_swap (X Y Z : List SR) (x y : SR) (rest : List Value) {p q : Nat} (hp : p = X.length) (hq : q = X.length + 1 + Y.length) : ((srCells (X ++ x :: (Y ++ y :: Z)) rest).setIfInBounds p y.v).setIfInBounds q x.v = srCells (X ++ y :: (Y ++ x :: Z)) rest := by
 rw [sr_set X (Y ++ y :: Z) x y rest hp]
 have e : ∀ z : SR, X ++ y :: (Y ++ z :: Z) = (X ++ y :: Y) ++ z :: Z := fun z => by simp
 rw [e y, e x, sr_set _ Z y x rest (by rw [hq]; simp; omega)]
theorem sr_swap' (X Y Z : List SR) (x y : SR) (rest : List Value) {p q : Nat} (hp : p = X.length) (hq : q = X.length + 1 + Y.length) : ((srCells (X ++ x :: (Y ++ y :: Z)) rest).setIfInBounds q x.v).setIfInBounds p y.v = srCells (X ++ y :: (Y ++ x :: Z)) rest := by
 have e : ∀ z : SR, X ++ x :: (Y ++ z :: Z) = (X ++ x :: Y) ++ z :: Z := fun z => by simp
 rw [e y, sr_set _ Z y x rest (by rw [hq]; simp; omega), ← e x, sr_set X (Y ++ x :: Z) x y rest hp]
theorem sr_snd (X Y Z : List SR) (x y : SR) (rest : List Value) {q : Nat} (hq : q = X.length + 1 + Y.length) : (srCells (X ++ x :: (Y ++ y :: Z)) rest)[q]? = some y.v := by
 have e : X ++ x :: (Y ++ y :: Z) = (X ++ x :: Y) ++ y :: Z := by simp
 rw [e]
 exact sr_at _ _ _ _ (by rw [hq]; simp; omega)
structure SrSt (y : World) (G : Nat) (rest : List Value) (l : List SR) (w : World) : Prop where
 k : Keeps [G] y w
 b : Blk w G 41 (srCells l rest)
end Go.Proofs.YtpfkjejknlkkoaaGreatDoor
