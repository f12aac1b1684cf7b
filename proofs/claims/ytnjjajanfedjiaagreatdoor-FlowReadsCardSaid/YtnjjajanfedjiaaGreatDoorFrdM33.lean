/- The reference's text of a job. -/
import Derived.Test.YtnjjajanfedjiaaGreatDoorFrdM32
import Derived.Test.YtnjjajanfedjiaaGreatDoorFrdM19
import Derived.Deep.DeepCutAuto
set_option linter.unusedSimpArgs false
set_option linter.unusedVariables false
namespace Go.Proofs.YtnjjajanfedjiaaGreatDoor
open Go.RowKit Go.BigFrame Go.Maps
attribute [local go_sem] bs_size bs_extract bs_append bs_toList
theorem bs_jl (a : Array UInt8) (r : Bs) : (⟨a⟩ : ByteArray) ++ bs r = bs (a.toList ++ r) := bs_append a.toList r
theorem bs_jr (a : Array UInt8) (r : Bs) : bs r ++ (⟨a⟩ : ByteArray) = bs (r ++ a.toList) := bs_append r a.toList
attribute [local go_sem] bs_jl bs_jr KW.cell
def xWhere (lc op TR : Bs) : Bs := (((([32, 119, 104, 101, 114, 101, 32] ++ lc) ++ [32]) ++ op) ++ [32]) ++ TR
def xSet (op CT TL TR : Bs) : Bs := (((((([58, 32] ++ CT) ++ [32, 61, 32]) ++ TL) ++ [32]) ++ op) ++ [32]) ++ TR
def xBy (CT : Bs) : Bs := [32, 98, 121, 32] ++ CT
def mapR (lc op CT TL TR : Bs) (c : Int) : Bs := if c = 1 ∨ c = 9 then xWhere lc op TR else if c = 2 then xSet op CT TL TR else if c = 3 ∨ c = 4 then xBy CT else []
def mapL (lc op CT TL TR : Bs) (L : Nat → Bool) (k : Int) : Option Value :=
 if k = 1 then (if L 14 then some (.string (bs (xWhere lc op TR))) else none)
 else if k = 9 then (if L 28 then some (.string (bs (xWhere lc op TR))) else none)
 else if k = 2 then (if L 45 then some (.string (bs (xSet op CT TL TR))) else none)
 else if k = 3 then (if L 48 then some (.string (bs (xBy CT))) else none)
 else if k = 4 then (if L 51 then some (.string (bs (xBy CT))) else none)
 else none
theorem mapL_all (lc op CT TL TR : Bs) (L : Nat → Bool) (h : L 14 = true ∧ L 28 = true ∧ L 45 = true ∧ L 48 = true ∧ L 51 = true) (c : Int) : (mapL lc op CT TL TR L c).getD (.string ⟨#[]⟩) = .string (bs (mapR lc op CT TL TR c)) := by
 obtain ⟨h0, h1, h2, h3, h4⟩ := h
 unfold mapL mapR
 rw [h0, h1, h2, h3, h4]
 by_cases e1 : c = 1
 ·simp [e1]
 by_cases e9 : c = 9
 ·simp [e9]
 by_cases e2 : c = 2
 ·simp [e2]
 by_cases e3 : c = 3
 ·simp [e3]
 by_cases e4 : c = 4
 ·simp [e4]
 simp [e1, e9, e2, e3, e4, bs]
theorem mapL_far (lc op CT TL TR : Bs) (L : Nat → Bool) (i : Nat) (h : i ≠ 14 ∧ i ≠ 28 ∧ i ≠ 45 ∧ i ≠ 48 ∧ i ≠ 51) : mapL lc op CT TL TR (updL L i) = mapL lc op CT TL TR L := by
 obtain ⟨h0, h1, h2, h3, h4⟩ := h
 unfold mapL updL
 simp only [if_neg (Ne.symm h0), if_neg (Ne.symm h1), if_neg (Ne.symm h2), if_neg (Ne.symm h3), if_neg (Ne.symm h4)]
theorem mapL_none (lc op CT TL TR : Bs) (L : Nat → Bool) (h : L 14 = false ∧ L 28 = false ∧ L 45 = false ∧ L 48 = false ∧ L 51 = false) : mapL lc op CT TL TR L = fun _ => none := by
 obtain ⟨h0, h1, h2, h3, h4⟩ := h
 funext k
 unfold mapL
 rw [h0, h1, h2, h3, h4]
 simp
theorem mapL_put0 (lc op CT TL TR : Bs) (L : Nat → Bool) : (fun x : Int => if x = 1 then some (Value.string (bs (xWhere lc op TR))) else mapL lc op CT TL TR L x) = mapL lc op CT TL TR (updL L 14) := by
 funext x
 unfold mapL updL
 by_cases h : x = 1
 ·subst h
  simp
 ·simp [h]
theorem mapL_put1 (lc op CT TL TR : Bs) (L : Nat → Bool) : (fun x : Int => if x = 9 then some (Value.string (bs (xWhere lc op TR))) else mapL lc op CT TL TR L x) = mapL lc op CT TL TR (updL L 28) := by
 funext x
 unfold mapL updL
 by_cases h : x = 9
 ·subst h
  simp
 ·simp [h]
theorem mapL_put2 (lc op CT TL TR : Bs) (L : Nat → Bool) : (fun x : Int => if x = 2 then some (Value.string (bs (xSet op CT TL TR))) else mapL lc op CT TL TR L x) = mapL lc op CT TL TR (updL L 45) := by
 funext x
 unfold mapL updL
 by_cases h : x = 2
 ·subst h
  simp
 ·simp [h]
theorem mapL_put3 (lc op CT TL TR : Bs) (L : Nat → Bool) : (fun x : Int => if x = 3 then some (Value.string (bs (xBy CT))) else mapL lc op CT TL TR L x) = mapL lc op CT TL TR (updL L 48) := by
 funext x
 unfold mapL updL
 by_cases h : x = 3
 ·subst h
  simp
 ·simp [h]
theorem mapL_put4 (lc op CT TL TR : Bs) (L : Nat → Bool) : (fun x : Int => if x = 4 then some (Value.string (bs (xBy CT))) else mapL lc op CT TL TR L x) = mapL lc op CT TL TR (updL L 51) := by
 funext x
 unfold mapL updL
 by_cases h : x = 4
 ·subst h
  simp
 ·simp [h]
structure RfW (w : World) (lc op CT TL TR : Bs) (g : Nat) (L : Nat → Bool) (w' : World) : Prop where
 kp : Keeps [] w w'
 gl : w.heap.size ≤ g
 fd : L 52 = true → L 0 = true ∧ L 14 = true ∧ L 28 = true ∧ L 45 = true ∧ L 48 = true ∧ L 51 = true
 nn : L 0 = false → L 14 = false ∧ L 28 = false ∧ L 45 = false ∧ L 48 = false ∧ L 51 = false
 mp : L 0 = true → ∃ n, n + leftN L 57 ≤ 57 ∧ MapV Tryz.prog 3 w' g n (mapL lc op CT TL TR L)
theorem RfW.far {w w' w'' : World} {lc op CT TL TR : Bs} {g : Nat} {L : Nat → Bool} (h : RfW w lc op CT TL TR g L w') {i : Nat} (hL : L i = false) (hi : i < 57) (h0 : i ≠ 0) (h52 : i = 52 → L 0 = true ∧ L 14 = true ∧ L 28 = true ∧ L 45 = true ∧ L 48 = true ∧ L 51 = true) (hne : i ≠ 14 ∧ i ≠ 28 ∧ i ≠ 45 ∧ i ≠ 48 ∧ i ≠ 51) (hk : Keeps [] w' w'') : RfW w lc op CT TL TR g (updL L i) w'' := by
 have e0 : updL L i 0 = L 0 := by unfold updL; rw [if_neg (Ne.symm h0)]
 have hl := leftN_upd hL hi
 refine ⟨h.kp.trans hk, h.gl, fun h5 => ?_, fun h' => ?_, fun h' => ?_⟩
 ·have hf : L 0 = true ∧ L 14 = true ∧ L 28 = true ∧ L 45 = true ∧ L 48 = true ∧ L 51 = true := by
   by_cases e : i = 52
   ·exact h52 e
   ·refine h.fd ?_
    unfold updL at h5
    rwa [if_neg (Ne.symm e)] at h5
  obtain ⟨n0, n1, n2, n3, n4⟩ := hne
  rw [e0]
  unfold updL
  rw [if_neg (Ne.symm n0), if_neg (Ne.symm n1), if_neg (Ne.symm n2), if_neg (Ne.symm n3), if_neg (Ne.symm n4)]
  exact hf
 ·rw [e0] at h'
  obtain ⟨n0, n1, n2, n3, n4⟩ := hne
  unfold updL
  rw [if_neg (Ne.symm n0), if_neg (Ne.symm n1), if_neg (Ne.symm n2), if_neg (Ne.symm n3), if_neg (Ne.symm n4)]
  exact h.nn h'
 ·rw [e0] at h'
  obtain ⟨n, hn, hm⟩ := h.mp h'
  rw [mapL_far _ _ _ _ _ _ _ hne]
  exact ⟨n, by omega, hm.keep hk (by simp)⟩
theorem RfW.ins {w w' w'' : World} {lc op CT TL TR : Bs} {g : Nat} {L : Nat → Bool} (h : RfW w lc op CT TL TR g L w') {i n : Nat} (hL : L i = false) (hi : i < 57) (h52 : i ≠ 52) (h0' : i ≠ 0) (h0 : L 0 = true) (hn : n + leftN L 57 ≤ 57) (hm : MapV Tryz.prog 3 w'' g (n + 1) (mapL lc op CT TL TR (updL L i))) (hg : w'.grownBy w'' (some g)) : RfW w lc op CT TL TR g (updL L i) w'' := by
 have e0 : updL L i 0 = true := by unfold updL; rw [if_neg (Ne.symm h0')]; exact h0
 have hl := leftN_upd hL hi
 refine ⟨h.kp.grown hg (fun x hx => .inr (by cases hx; exact h.gl)), h.gl, fun h5 => ?_, fun h' => ?_, fun _ => ⟨n + 1, by omega, hm⟩⟩
 ·have hf := h.fd (by unfold updL at h5; rwa [if_neg (Ne.symm h52)] at h5)
  rw [e0]
  unfold updL
  refine ⟨rfl, ?_, ?_, ?_, ?_, ?_⟩ <;> split <;> simp [hf]
 ·
  rw [e0] at h'
  cases h'
theorem leftN_le (L : Nat → Bool) (n : Nat) : leftN L n ≤ n := by
 unfold leftN
 exact Nat.le_trans List.countP_le_length (by simp)
theorem RfW.made {w w' : World} {lc op CT TL TR : Bs} {g : Nat} {L : Nat → Bool} (h : RfW w lc op CT TL TR g L w') (hL : L 0 = false) : RfW w lc op CT TL TR w'.heap.size (updL L 0) (w'.alloc (.map #[] 0)) := by
 have hn := h.nn hL
 refine ⟨h.kp.alloc _, h.kp.size, fun h5 => ?_, fun h' => ?_, fun _ => ⟨0, by rw [Nat.zero_add]; exact leftN_le _ _, ?_⟩⟩
 ·have := h.fd h5
  rw [hL] at this
  cases this.1
 ·cases h'
 ·rw [mapL_far _ _ _ _ _ _ _ (by decide), mapL_none _ _ _ _ _ _ hn]
  exact MapV.made w'
theorem RfW.start (w : World) (lc op CT TL TR : Bs) : RfW w lc op CT TL TR w.heap.size (fun _ => false) w.drew :=
 ⟨(Keeps.refl _ _).drew, Nat.le_refl _, (fun h => by cases h), (fun _ => ⟨rfl, rfl, rfl, rfl, rfl⟩), fun h => by cases h⟩
def RfQ (y : World) (_ : Nat) (_ : Nat → Bool) (w' : World) : Prop := Keeps [] y w'
structure RfV (y0 : World) (g k : Nat) (L : Nat → Bool) (w' : World) : Prop where
 kp : Keeps [] y0 w'
 fd : L 4 = true → L 0 = true
 hat : L 0 = true → w'.cell? ⟨g, k, none⟩ = some (.string (bs (refWords.getD k [])))
theorem RfV.start (y0 : World) (k : Nat) : RfV y0 0 k (fun _ => false) y0.drew := ⟨(Keeps.refl _ _).drew, (fun h => by cases h), fun h => by cases h⟩
theorem RfV.far {y0 w' : World} {g k i : Nat} {L : Nat → Bool} (h : RfV y0 g k L w') (_hL : L i = false) (h0 : i ≠ 0) (h4 : i = 4 → L 0 = true) : RfV y0 g k (updL L i) w' := by
 have e0 : updL L i 0 = L 0 := by unfold updL; rw [if_neg (Ne.symm h0)]
 refine ⟨h.kp, fun h5 => ?_, fun h' => h.hat (e0 ▸ h')⟩
 rw [e0]
 by_cases e : i = 4
 ·exact h4 e
 ·refine h.fd ?_
  unfold updL at h5
  rwa [if_neg (Ne.symm e)] at h5
theorem RfV.made {y0 w' w'' : World} {g g2 k : Nat} {L : Nat → Bool} (h : RfV y0 g k L w') (_hL : L 0 = false) (hk : Keeps [] w' w'') (hc : w''.cell? ⟨g2, k, none⟩ = some (.string (bs (refWords.getD k [])))) : RfV y0 g2 k (updL L 0) w'' :=
 ⟨h.kp.trans hk, fun _ => rfl, fun _ => hc⟩
theorem refW_len : ∀ k : Nat, k < 9 → (refWords.getD k []).length ≤ 10 := by decide
theorem mapR_len (lc op CT TL TR : Bs) (c : Int) : (mapR lc op CT TL TR c).length ≤ lc.length + op.length + CT.length + TL.length + TR.length + 20 := by
 unfold mapR
 split
 ·simp [xWhere]; omega
 split
 ·simp [xSet]; omega
 split
 ·simp [xBy]; omega
 ·simp
def restT (k : Nat) (ins cols : List Bs) (op M : Bs) : Bs :=
 if k = 4 then [44, 32] ++ ins.getD 1 []
 else if k = 6 then (((([46] ++ cols.getD 0 []) ++ [44, 32]) ++ ins.getD 1 []) ++ [46]) ++ cols.getD 1 []
 else if k = 7 then (((([32, 98, 121, 32] ++ cols.getD 0 []) ++ [32]) ++ op) ++ [32]) ++ cols.getD 1 []
 else M
theorem wf9 : ∀ k : Nat, k < 9 → (Lit.int .i64 ((k : Int) + 1)).wf = true := by decide
set_option maxRecDepth 100000 in
set_option maxHeartbeats 16000000 in
theorem rjtext_k (at_ : Int) (k : Nat) (hk : k < 9) (c : Int) (hc : c = (k : Int) + 1) (outs ins cols : List Bs) (op : Bs) (left right : Ar) (retry : Int) (a0 : Bs) (h0 : ins[0]? = some a0)
  (hl : ArW left) (hr : ArW right) (hlen : a0.length ≤ 1000000 ∧ op.length ≤ 1000000 ∧ left.col.length ≤ 1000000 ∧ (rfArg left).length ≤ 1000000 ∧ (rfArg right).length ≤ 1000000 ∧ (joinCm cols).length ≤ 1000000) (hcl : cols.length ≤ 1000000)
  (h46 : k = 4 ∨ k = 6 → ∃ a1, ins[1]? = some a1 ∧ a1.length ≤ 1000000) (h67 : k = 6 ∨ k = 7 → ∃ d0 d1, cols[0]? = some d0 ∧ cols[1]? = some d1 ∧ d0.length ≤ 1000000 ∧ d1.length ≤ 1000000)
  (base : Nat) (v2 v3 v4 : Value) (w : World) (hE : FEnv w) (hR : REnv w) (h : JRows w base ⟨at_, c, outs, ins, cols, op, left, right, retry⟩ v2 v3 v4) :
  Calls Tryz.prog 11 #[.agg (jbCells ⟨at_, c, outs, ins, cols, op, left, right, retry⟩ v2 v3 v4)] w fun e w' => e = .returned (.string (bs (refWords.getD k [] ++ [32] ++ a0 ++ restT k ins cols op (mapR left.col op (joinCm cols) (rfArg left) (rfArg right) c)))) ∧ Keeps [] w w' := by
 obtain ⟨len_a0, len_op, len_lc, len_al, len_ar, len_ct⟩ := hlen
 obtain ⟨TL, hTL⟩ : ∃ t, rfArg left = t := ⟨_, rfl⟩
 obtain ⟨TR, hTR⟩ : ∃ t, rfArg right = t := ⟨_, rfl⟩
 obtain ⟨CT, hCT⟩ : ∃ t, joinCm cols = t := ⟨_, rfl⟩
 rw [hTL] at len_al ⊢
 rw [hTR] at len_ar ⊢
 have HAL := Lib.hid (fun W hW => (by have h := rfArg_any left hl W hW; rw [hTL] at h; exact h : Calls Tryz.prog 44 #[arV left] W fun e w' => e = .returned (.string (bs TL)) ∧ Keeps [] W w'))
 have HAR := Lib.hid (fun W hW => (by have h := rfArg_any right hr W hW; rw [hTR] at h; exact h : Calls Tryz.prog 44 #[arV right] W fun e w' => e = .returned (.string (bs TR)) ∧ Keeps [] W w'))
 obtain ⟨A2, c2, rfl, -⟩ := own_form h.o2
 obtain ⟨A3, c3, rfl, hi⟩ := own_form h.o3
 have hpos : 0 < ins.length := (List.getElem?_eq_some_iff.1 h0).1
 obtain ⟨g3, rfl, lg3, hi⟩ := hi hpos
 have i0 : w.cell? ⟨g3, 0, none⟩ = some (.string (bs a0)) := hi 0 _ (by
  obtain ⟨h1, h2⟩ := List.getElem?_eq_some_iff.1 h0
  unfold strs
  rw [List.getElem?_map, h0]
  rfl)
 obtain ⟨A4, c4, rfl, hj⟩ := own_form h.o4
 have HJN := Lib.hid (fun W (q : Keeps [] w W) => join_any cols hcl (by omega) A4 c4 W base (own_keep h.o4 q (fun _ _ => by simp)))
 rw [hCT] at HJN len_ct ⊢
 obtain ⟨mx, hmx⟩ := hR.mlen
 have HE := Lib.hid hE
 have HI1 : Hid (∀ a1, ins[1]? = some a1 → w.cell? ⟨g3, 1, none⟩ = some (.string (bs a1)) ∧ (1 : Int) < (ins.length : Int)) := Lib.hid fun a1 h1 => ⟨hi 1 _ (by unfold strs; rw [List.getElem?_map, h1]; rfl), by have := (List.getElem?_eq_some_iff.1 h1).1; omega⟩
 have HJ1 : Hid (∀ d0 d1, cols[0]? = some d0 → cols[1]? = some d1 → ∃ g4, A4 = some ⟨g4, 0, none⟩ ∧ w.cell? ⟨g4, 0, none⟩ = some (.string (bs d0)) ∧ w.cell? ⟨g4, 1, none⟩ = some (.string (bs d1)) ∧ (0 : Int) < (cols.length : Int) ∧ (1 : Int) < (cols.length : Int)) := Lib.hid fun d0 d1 h0 h1 => by
  have hp := (List.getElem?_eq_some_iff.1 h1).1
  obtain ⟨g4, e4, _, hj4⟩ := hj (show 0 < cols.length by omega)
  exact ⟨g4, e4, hj4 0 _ (by unfold strs; rw [List.getElem?_map, h0]; rfl), hj4 1 _ (by unfold strs; rw [List.getElem?_map, h1]; rfl), by omega, by omega⟩
 clear hE hl hr h hTL hTR hi hj hCT hR
 have HC := Lib.hid hc
 clear hc
 unfold jbCells
 dsimp only
 go_enter Tryz.func11, Tryz.ntmps11
 go_upto_region 1 with (fail)
 have hb := Blk.new w 45 #[.int .i64 at_, .int .i64 c, .slice A2 outs.length c2, .slice (some ⟨g3, 0, none⟩) ins.length c3, .slice A4 cols.length c4, .string (bs op), .string (bs left.col), .int .i64 left.val.kind, .int .i64 left.val.num, .string (bs left.val.word), .string (bs right.col), .int .i64 right.val.kind, .int .i64 right.val.num, .string (bs right.val.word), .int .i64 retry]
 have hk0 := (Keeps.refl [] w).alloc (.cells #[.int .i64 at_, .int .i64 c, .slice A2 outs.length c2, .slice (some ⟨g3, 0, none⟩) ins.length c3, .slice A4 cols.length c4, .string (bs op), .string (bs left.col), .int .i64 left.val.kind, .int .i64 left.val.num, .string (bs left.val.word), .string (bs right.col), .int .i64 right.val.kind, .int .i64 right.val.num, .string (bs right.val.word), .int .i64 retry] 45)
 obtain ⟨y0, hy0⟩ : ∃ x, w.alloc (.cells #[.int .i64 at_, .int .i64 c, .slice A2 outs.length c2, .slice (some ⟨g3, 0, none⟩) ins.length c3, .slice A4 cols.length c4, .string (bs op), .string (bs left.col), .int .i64 left.val.kind, .int .i64 left.val.num, .string (bs left.val.word), .string (bs right.col), .int .i64 right.val.kind, .int .i64 right.val.num, .string (bs right.val.word), .int .i64 retry] 45) = x := ⟨_, rfl⟩
 rw [hy0] at hb hk0 ⊢
 obtain ⟨B, hB⟩ : ∃ x, w.heap.size = x := ⟨_, rfl⟩
 rw [hB] at hb ⊢
 have HK0 := Lib.hid hk0
 have HSP : Hid (∀ W, Keeps [] y0 W → Calls Tryz.prog 43 #[.string (bs [102, 105, 108, 116, 101, 114, 32, 115, 101, 116, 32, 112, 114, 111, 106, 101, 99, 116, 32, 115, 111, 114, 116, 32, 117, 110, 105, 111, 110, 32, 100, 105, 115, 116, 105, 110, 99, 116, 32, 106, 111, 105, 110, 32, 103, 114, 111, 117, 112, 32, 115, 112, 108, 105, 116]), .string (bs [32])] W fun e W' => ∃ g, e = .returned (.slice (some ⟨g, 0, none⟩) 9 9) ∧ Keeps [] W W' ∧ W'.cell? ⟨g, k, none⟩ = some (.string (bs (refWords.getD k [])))) := Lib.hid (fun W q => (split_words mx W (q.cell_of (hk0.cell_of hmx (by simp)) (by simp))).mono (by
  rintro e W' ⟨rfl, rfl⟩
  refine ⟨_, rfl, (Keeps.refl _ _).alloc _, ?_⟩
  rw [(Blk.new _ _ _).cell k]
  have h9 : refWords.length = 9 := rfl
  simp [strs, List.getD_eq_getElem?_getD, List.getElem?_eq_getElem (show k < refWords.length by omega)]))
 have HB := Lib.hid hb
 have y1 : y0.cell? ⟨B, 1, none⟩ = some (.int .i64 c) := hb.cell 1
 have ly := hb.lt
 clear hb hk0 hy0 hB hmx
 have hc1 : IntKind.i64.wrap (c - 1) = (k : Int) := by rw [HC.out]; simp [IntKind.wrap, IntKind.bits, IntKind.signed]; omega
 have hk9 : (k : Int) < 9 := by omega
 have hk0' : (0 : Int) ≤ (k : Int) := by omega
 have HZ : Hid (∀ W, Keeps [] y0 W → W.cell? ⟨B, 1, none⟩ = some (.int .i64 c)) := Lib.hid (fun W q => q.cell_of y1 (by simp))
 go_cut [3] (fun v wx => v = .string (bs (refWords.getD k [])) ∧ Hid (Keeps [] y0 wx))
 case first =>
  rename_i J1 K1 hJ1 hK1
  refine wp_region_fit (by kernel_rfl) (by kernel_rfl) (by kernel_rfl) (fun g i => if i = 0 then .slice (some ⟨g, 0, none⟩) 9 9 else if i = 4 then .pointer (some ⟨g, k, none⟩) else [undef, .pointer (some ⟨B, 1, none⟩), .int .i64 c, .int .i64 k, undef, .string (bs (refWords.getD k [])), .string (bs (refWords.getD k []))].getD i undef) (fun g L w' => RfV y0 g k L w') ⟨0, RfV.start y0 k⟩ ?_ ?_
  ·show AllC _ 7
   refine ⟨⟨⟨⟨⟨⟨⟨trivial, ?_⟩, ?_⟩, ?_⟩, ?_⟩, ?_⟩, ?_⟩, ?_⟩
   ·intro hb g L a1 w1 hL hD hF hW
    have hN := hW
    refine wpOp_call rfl rfl (by kernel_rfl) ((HSP.out _ hW.kp).mono ?_)
    rintro e w2 ⟨g2, rfl, hk2, hc2⟩
    refine ⟨_, rfl, g2, (hF.congr (v' := _) fun j hj => ?_).put hb rfl, hW.made hL hk2 hc2⟩
    by_cases h0 : j = 0
    ·subst h0; rw [hL] at hj; cases hj
    by_cases h4 : j = 4
    ·subst h4; rw [hW.fd hj] at hL; cases hL
    show (if j = 0 then _ else if j = 4 then _ else _) = (if j = 0 then _ else if j = 4 then _ else _)
    rw [if_neg h0, if_neg h4, if_neg h0, if_neg h4]
   ·intro hb g L a1 w1 hL hD hF hW
    have e1 : a1.tmps.getD 1 undef = .pointer (some ⟨B, 0, none⟩) := hF.old 1 (by kernel_rfl)
    have hN := hW.far hL (i := 1) (by decide) (fun h => absurd h (by decide))
    refine fit_val rfl hb rfl hF (by exact hN) ?_
    show (execOp _ _).run _ _ = Result.ok (.value (.pointer (some ⟨B, 1, none⟩))) _
    clear hN hF hD hb
    simp only [execOp, Act.eval, e1]
    go_simp
   ·intro hb g L a1 w1 hL hD hF hW
    have e8 : a1.tmps.getD 8 undef = .pointer (some ⟨B, 1, none⟩) := hF.y 1 _ 8 rfl rfl (hD 1 (by kernel_rfl))
    have hN := hW.far hL (i := 2) (by decide) (fun h => absurd h (by decide))
    refine fit_val rfl hb rfl hF (by exact hN) ?_
    show (execOp _ _).run _ _ = Result.ok (.value (.int .i64 c)) _
    clear hN hF hD hb
    have z0 := HZ.out w1 hW.kp
    simp only [execOp, Act.eval, e8]
    go_simp
   ·intro hb g L a1 w1 hL hD hF hW
    have e9 : a1.tmps.getD 9 undef = .int .i64 c := hF.y 2 _ 9 rfl rfl (hD 2 (by kernel_rfl))
    have hN := hW.far hL (i := 3) (by decide) (fun h => absurd h (by decide))
    refine fit_val rfl hb rfl hF (by exact hN) ?_
    show (execOp _ _).run _ _ = Result.ok (.value (.int .i64 k)) _
    clear hN hF hD hb
    simp only [execOp, Act.eval, e9]
    go_simp
   ·intro hb g L a1 w1 hL hD hF hW
    have e7 : a1.tmps.getD 7 undef = .slice (some ⟨g, 0, none⟩) 9 9 := hF.y 0 _ 7 rfl rfl (hD 0 (by kernel_rfl))
    have e10 : a1.tmps.getD 10 undef = .int .i64 k := hF.y 3 _ 10 rfl rfl (hD 3 (by kernel_rfl))
    have hN := hW.far hL (i := 4) (by decide) (fun _ => hD 0 (by kernel_rfl))
    refine fit_val rfl hb rfl hF (by exact hN) ?_
    show (execOp _ _).run _ _ = Result.ok (.value (.pointer (some ⟨g, k, none⟩))) _
    clear hN hF hD hb
    simp only [execOp, Act.eval, e7, e10]
    go_simp
   ·intro hb g L a1 w1 hL hD hF hW
    have e11 : a1.tmps.getD 11 undef = .pointer (some ⟨g, k, none⟩) := hF.y 4 _ 11 rfl rfl (hD 4 (by kernel_rfl))
    have hN := hW.far hL (i := 5) (by decide) (fun h => absurd h (by decide))
    refine fit_val rfl hb rfl hF hN ?_
    show (execOp _ _).run _ _ = Result.ok (.value (.string (bs (refWords.getD k [])))) _
    have hx := hW.hat (hW.fd (hD 4 (by kernel_rfl)))
    clear hN hF hD hb
    simp only [execOp, Act.eval, e11]
    go_simp
   ·intro hb g L a1 w1 hL hD hF hW
    have e12 : a1.tmps.getD 12 undef = .string (bs (refWords.getD k [])) := hF.y 5 _ 12 rfl rfl (hD 5 (by kernel_rfl))
    have hN := hW.far hL (i := 6) (by decide) (fun h => absurd h (by decide))
    refine fit_val rfl hb rfl hF (by exact hN) ?_
    show (execOp _ _).run _ _ = Result.ok (.value (.string (bs (refWords.getD k [])))) _
    clear hN hF hD hb
    simp only [execOp, Act.eval, e12]
    go_simp
  ·intro g L w' _ hW
   refine hK1 _ _ (Met.intro (hJ1 _ _ ?_))
   repeat apply Exists.intro
   exact ⟨⟨rfl, Lib.hid hW.kp⟩, rfl⟩
 case rest =>
  obtain ⟨rfl, HKA⟩ := hcut
  obtain ⟨ya, rfl⟩ : ∃ z : World, z = wc := ⟨_, rfl⟩
  have HKB := Lib.hid (HK0.out.trans HKA.out)
  have HBA := Lib.hid (HB.out.keep HKA.out (by simp))
  have HZA : Hid (∀ W, Keeps [] ya W → W.cell? ⟨B, 3, none⟩ = some (.slice (some ⟨g3, 0, none⟩) ins.length c3) ∧ W.cell? ⟨B, 4, none⟩ = some (.slice A4 cols.length c4) ∧ W.cell? ⟨g3, 0, none⟩ = some (.string (bs a0))) := Lib.hid (fun W q => ⟨q.cell_of (HBA.out.cell 3) (by simp), q.cell_of (HBA.out.cell 4) (by simp), q.cell_of (HKB.out.cell_of i0 (by simp)) (by simp)⟩)
  have hlen3 : (0 : Int) < (ins.length : Int) := by omega
  clear HSP HZ y1 ly hc1 hk0' hk9
  go_upto_region 2 with (fail)
  go_cut [4, 5] (fun u v wx => u = .string (bs a0) ∧ v = .string (bs CT) ∧ Hid (Keeps [] ya wx))
  case first =>
   rename_i J1 K1 hJ1 hK1
   refine wp_region_fit (by kernel_rfl) (by kernel_rfl) (by kernel_rfl) (fun g i => if i = 100 then .map (some g) else [.pointer (some ⟨B, 3, none⟩), .slice (some ⟨g3, 0, none⟩) ins.length c3, .pointer (some ⟨g3, 0, none⟩), .string (bs (a0)), .pointer (some ⟨B, 4, none⟩), .slice A4 cols.length c4, .string (bs (CT)), .string (bs (a0)), .string (bs (CT))].getD i undef) (fun g L w' => RfQ ya g L w') ⟨0, (Keeps.refl _ _).drew⟩ ?_ ?_
   ·show AllC _ 9
    refine ⟨⟨⟨⟨⟨⟨⟨⟨⟨trivial, ?_⟩, ?_⟩, ?_⟩, ?_⟩, ?_⟩, ?_⟩, ?_⟩, ?_⟩, ?_⟩
    ·intro hb g L a1 w1 hL hD hF hW
     have e1 : a1.tmps.getD 1 undef = .pointer (some ⟨B, 0, none⟩) := hF.old 1 (by kernel_rfl)
     have hN := hW
     refine fit_val rfl hb rfl hF (by exact hN) ?_
     show (execOp _ _).run _ _ = Result.ok (.value (.pointer (some ⟨B, 3, none⟩))) _
     clear hN hF hD hb
     simp only [execOp, Act.eval, e1]
     go_simp
    ·intro hb g L a1 w1 hL hD hF hW
     have e13 : a1.tmps.getD 13 undef = .pointer (some ⟨B, 3, none⟩) := hF.y 0 _ 13 rfl rfl (hD 0 (by kernel_rfl))
     have hN := hW
     refine fit_val rfl hb rfl hF (by exact hN) ?_
     show (execOp _ _).run _ _ = Result.ok (.value (.slice (some ⟨g3, 0, none⟩) ins.length c3)) _
     clear hN hF hD hb
     obtain ⟨z0, z1, z2⟩ := HZA.out w1 hW
     simp only [execOp, Act.eval, e13]
     go_simp
    ·intro hb g L a1 w1 hL hD hF hW
     have e14 : a1.tmps.getD 14 undef = .slice (some ⟨g3, 0, none⟩) ins.length c3 := hF.y 1 _ 14 rfl rfl (hD 1 (by kernel_rfl))
     have hN := hW
     refine fit_val rfl hb rfl hF (by exact hN) ?_
     show (execOp _ _).run _ _ = Result.ok (.value (.pointer (some ⟨g3, 0, none⟩))) _
     clear hN hF hD hb
     simp only [execOp, Act.eval, e14]
     go_simp
    ·intro hb g L a1 w1 hL hD hF hW
     have e15 : a1.tmps.getD 15 undef = .pointer (some ⟨g3, 0, none⟩) := hF.y 2 _ 15 rfl rfl (hD 2 (by kernel_rfl))
     have hN := hW
     refine fit_val rfl hb rfl hF (by exact hN) ?_
     show (execOp _ _).run _ _ = Result.ok (.value (.string (bs (a0)))) _
     clear hN hF hD hb
     obtain ⟨z0, z1, z2⟩ := HZA.out w1 hW
     simp only [execOp, Act.eval, e15]
     go_simp
    ·intro hb g L a1 w1 hL hD hF hW
     have e1 : a1.tmps.getD 1 undef = .pointer (some ⟨B, 0, none⟩) := hF.old 1 (by kernel_rfl)
     have hN := hW
     refine fit_val rfl hb rfl hF (by exact hN) ?_
     show (execOp _ _).run _ _ = Result.ok (.value (.pointer (some ⟨B, 4, none⟩))) _
     clear hN hF hD hb
     simp only [execOp, Act.eval, e1]
     go_simp
    ·intro hb g L a1 w1 hL hD hF hW
     have e17 : a1.tmps.getD 17 undef = .pointer (some ⟨B, 4, none⟩) := hF.y 4 _ 17 rfl rfl (hD 4 (by kernel_rfl))
     have hN := hW
     refine fit_val rfl hb rfl hF (by exact hN) ?_
     show (execOp _ _).run _ _ = Result.ok (.value (.slice A4 cols.length c4)) _
     clear hN hF hD hb
     obtain ⟨z0, z1, z2⟩ := HZA.out w1 hW
     simp only [execOp, Act.eval, e17]
     go_simp
    ·intro hb g L a1 w1 hL hD hF hW
     have e18 : a1.tmps.getD 18 undef = .slice A4 cols.length c4 := hF.y 5 _ 18 rfl rfl (hD 5 (by kernel_rfl))
     have hN := hW
     refine fit_call (f := 42) (args := #[.slice A4 cols.length c4, .string (bs [44, 32])]) rfl hb rfl hF ?_ ?_
     ·clear hN hF hD hb
      simp only [execOp, Act.eval, e18]
      go_simp
      rfl
     ·exact (HJN.out _ (HKB.out.trans hW)).mono fun _ _ ⟨he, hk⟩ => ⟨he, hW.trans hk⟩
    ·intro hb g L a1 w1 hL hD hF hW
     have e16 : a1.tmps.getD 16 undef = .string (bs (a0)) := hF.y 3 _ 16 rfl rfl (hD 3 (by kernel_rfl))
     have hN := hW
     refine fit_val rfl hb rfl hF (by exact hN) ?_
     show (execOp _ _).run _ _ = Result.ok (.value (.string (bs (a0)))) _
     clear hN hF hD hb
     simp only [execOp, Act.eval, e16]
     go_simp
    ·intro hb g L a1 w1 hL hD hF hW
     have e19 : a1.tmps.getD 19 undef = .string (bs (CT)) := hF.y 6 _ 19 rfl rfl (hD 6 (by kernel_rfl))
     have hN := hW
     refine fit_val rfl hb rfl hF (by exact hN) ?_
     show (execOp _ _).run _ _ = Result.ok (.value (.string (bs (CT)))) _
     clear hN hF hD hb
     simp only [execOp, Act.eval, e19]
     go_simp
   ·intro g L w' _ hW
    refine hK1 _ _ (Met.intro (hJ1 _ _ ?_))
    repeat apply Exists.intro
    exact ⟨⟨rfl, rfl, Lib.hid hW⟩, rfl⟩
  case rest =>
   obtain ⟨rfl, rfl, HKC⟩ := hcut
   obtain ⟨yb, rfl⟩ : ∃ z : World, z = wc := ⟨_, rfl⟩
   have HKD := Lib.hid (HKB.out.trans HKC.out)
   have HBB := Lib.hid (HBA.out.keep HKC.out (by simp))
   have HZB : Hid (∀ W, Keeps [] yb W → W.cell? ⟨B, 1, none⟩ = some (.int .i64 c) ∧ W.cell? ⟨B, 5, none⟩ = some (.string (bs op)) ∧ W.cell? ⟨B, 6, none⟩ = some (.string (bs left.col)) ∧ W.cell? ⟨B, 7, none⟩ = some (.int .i64 left.val.kind) ∧ W.cell? ⟨B, 8, none⟩ = some (.int .i64 left.val.num) ∧ W.cell? ⟨B, 9, none⟩ = some (.string (bs left.val.word)) ∧ W.cell? ⟨B, 10, none⟩ = some (.string (bs right.col)) ∧ W.cell? ⟨B, 11, none⟩ = some (.int .i64 right.val.kind) ∧ W.cell? ⟨B, 12, none⟩ = some (.int .i64 right.val.num) ∧ W.cell? ⟨B, 13, none⟩ = some (.string (bs right.val.word))) := Lib.hid (fun W q => by
    have h := HBB.out.keep q (by simp)
    exact ⟨h.cell 1, h.cell 5, h.cell 6, h.cell 7, h.cell 8, h.cell 9, h.cell 10, h.cell 11, h.cell 12, h.cell 13⟩)
   have hwf : (Lit.int .i64 c).wf = true := by rw [HC.out]; exact wf9 k hk
   clear HJN HZA
   go_upto_region 3 with (fail)
   go_cut [6] (fun v wx => v = .string (bs (mapR left.col op CT TL TR c)) ∧ Hid (Keeps [] yb wx))
   case first =>
    rename_i J1 K1 hJ1 hK1
    refine wp_region_fit (by kernel_rfl) (by kernel_rfl) (by kernel_rfl) (fun g i => if i = 0 ∨ i = 52 then .map (some g) else [undef, .pointer (some ⟨B, 6, none⟩), .pointer (some ⟨B, 6, none⟩), .string (bs (left.col)), .string (bs ([32, 119, 104, 101, 114, 101, 32] ++ left.col)), .string (bs (([32, 119, 104, 101, 114, 101, 32] ++ left.col) ++ [32])), .pointer (some ⟨B, 5, none⟩), .string (bs (op)), .string (bs ((([32, 119, 104, 101, 114, 101, 32] ++ left.col) ++ [32]) ++ op)), .string (bs (((([32, 119, 104, 101, 114, 101, 32] ++ left.col) ++ [32]) ++ op) ++ [32])), .pointer (some ⟨B, 10, none⟩), arV right, .string (bs (TR)), .string (bs ((((([32, 119, 104, 101, 114, 101, 32] ++ left.col) ++ [32]) ++ op) ++ [32]) ++ TR)), undef, .pointer (some ⟨B, 6, none⟩), .pointer (some ⟨B, 6, none⟩), .string (bs (left.col)), .string (bs ([32, 119, 104, 101, 114, 101, 32] ++ left.col)), .string (bs (([32, 119, 104, 101, 114, 101, 32] ++ left.col) ++ [32])), .pointer (some ⟨B, 5, none⟩), .string (bs (op)), .string (bs ((([32, 119, 104, 101, 114, 101, 32] ++ left.col) ++ [32]) ++ op)), .string (bs (((([32, 119, 104, 101, 114, 101, 32] ++ left.col) ++ [32]) ++ op) ++ [32])), .pointer (some ⟨B, 10, none⟩), arV right, .string (bs (TR)), .string (bs ((((([32, 119, 104, 101, 114, 101, 32] ++ left.col) ++ [32]) ++ op) ++ [32]) ++ TR)), undef, .string (bs (CT)), .string (bs ([58, 32] ++ CT)), .string (bs (([58, 32] ++ CT) ++ [32, 61, 32])), .pointer (some ⟨B, 6, none⟩), arV left, .string (bs (TL)), .string (bs ((([58, 32] ++ CT) ++ [32, 61, 32]) ++ TL)), .string (bs (((([58, 32] ++ CT) ++ [32, 61, 32]) ++ TL) ++ [32])), .pointer (some ⟨B, 5, none⟩), .string (bs (op)), .string (bs ((((([58, 32] ++ CT) ++ [32, 61, 32]) ++ TL) ++ [32]) ++ op)), .string (bs (((((([58, 32] ++ CT) ++ [32, 61, 32]) ++ TL) ++ [32]) ++ op) ++ [32])), .pointer (some ⟨B, 10, none⟩), arV right, .string (bs (TR)), .string (bs ((((((([58, 32] ++ CT) ++ [32, 61, 32]) ++ TL) ++ [32]) ++ op) ++ [32]) ++ TR)), undef, .string (bs (CT)), .string (bs ([32, 98, 121, 32] ++ CT)), undef, .string (bs (CT)), .string (bs ([32, 98, 121, 32] ++ CT)), undef, undef, .pointer (some ⟨B, 1, none⟩), .int .i64 c, .string (bs (mapR left.col op CT TL TR c)), .string (bs (mapR left.col op CT TL TR c))].getD i undef) (fun g L w' => RfW yb left.col op CT TL TR g L w') ⟨_, RfW.start yb left.col op CT TL TR⟩ ?_ ?_
    ·show AllC _ 57
     refine ⟨⟨⟨⟨⟨⟨⟨⟨⟨⟨⟨⟨⟨⟨⟨⟨⟨⟨⟨⟨⟨⟨⟨⟨⟨⟨⟨⟨⟨⟨⟨⟨⟨⟨⟨⟨⟨⟨⟨⟨⟨⟨⟨⟨⟨⟨⟨⟨⟨⟨⟨⟨⟨⟨⟨⟨⟨trivial, ?_⟩, ?_⟩, ?_⟩, ?_⟩, ?_⟩, ?_⟩, ?_⟩, ?_⟩, ?_⟩, ?_⟩, ?_⟩, ?_⟩, ?_⟩, ?_⟩, ?_⟩, ?_⟩, ?_⟩, ?_⟩, ?_⟩, ?_⟩, ?_⟩, ?_⟩, ?_⟩, ?_⟩, ?_⟩, ?_⟩, ?_⟩, ?_⟩, ?_⟩, ?_⟩, ?_⟩, ?_⟩, ?_⟩, ?_⟩, ?_⟩, ?_⟩, ?_⟩, ?_⟩, ?_⟩, ?_⟩, ?_⟩, ?_⟩, ?_⟩, ?_⟩, ?_⟩, ?_⟩, ?_⟩, ?_⟩, ?_⟩, ?_⟩, ?_⟩, ?_⟩, ?_⟩, ?_⟩, ?_⟩, ?_⟩, ?_⟩
     ·intro hb g L a1 w1 hL hD hF hW
      have hN := hW
      refine wpOp_val (u := .map (some w1.heap.size)) rfl rfl (by kernel_rfl) ⟨_, (hF.congr (v' := _) fun j hj => ?_).put hb rfl, hW.made hL⟩
      by_cases h0 : j = 0
      ·subst h0; rw [hL] at hj; cases hj
      by_cases h4 : j = 52
      ·subst h4; rw [(hW.fd hj).1] at hL; cases hL
      show (if j = 0 ∨ j = 52 then _ else _) = (if j = 0 ∨ j = 52 then _ else _)
      rw [if_neg (by omega), if_neg (by omega)]
     ·intro hb g L a1 w1 hL hD hF hW
      have e1 : a1.tmps.getD 1 undef = .pointer (some ⟨B, 0, none⟩) := hF.old 1 (by kernel_rfl)
      have hN := fun W q => hW.far hL (i := 1) (w'' := W) (by decide) (by decide) (fun h => absurd h (by decide)) (by decide) q
      refine fit_val rfl hb rfl hF (hN _ (Keeps.refl _ _)) ?_
      show (execOp _ _).run _ _ = Result.ok (.value (.pointer (some ⟨B, 6, none⟩))) _
      clear hN hF hD hb
      simp only [execOp, Act.eval, e1]
      go_simp
     ·intro hb g L a1 w1 hL hD hF hW
      have e21 : a1.tmps.getD 21 undef = .pointer (some ⟨B, 6, none⟩) := hF.y 1 _ 21 rfl rfl (hD 1 (by kernel_rfl))
      have hN := fun W q => hW.far hL (i := 2) (w'' := W) (by decide) (by decide) (fun h => absurd h (by decide)) (by decide) q
      refine fit_val rfl hb rfl hF (hN _ (Keeps.refl _ _)) ?_
      show (execOp _ _).run _ _ = Result.ok (.value (.pointer (some ⟨B, 6, none⟩))) _
      clear hN hF hD hb
      simp only [execOp, Act.eval, e21]
      go_simp
     ·intro hb g L a1 w1 hL hD hF hW
      have e22 : a1.tmps.getD 22 undef = .pointer (some ⟨B, 6, none⟩) := hF.y 2 _ 22 rfl rfl (hD 2 (by kernel_rfl))
      have hN := fun W q => hW.far hL (i := 3) (w'' := W) (by decide) (by decide) (fun h => absurd h (by decide)) (by decide) q
      refine fit_val rfl hb rfl hF (hN _ (Keeps.refl _ _)) ?_
      show (execOp _ _).run _ _ = Result.ok (.value (.string (bs (left.col)))) _
      clear hN hF hD hb
      obtain ⟨z0, z1, z2, z3, z4, z5, z6, z7, z8, z9⟩ := HZB.out w1 hW.kp
      simp only [execOp, Act.eval, e22]
      go_simp
     ·intro hb g L a1 w1 hL hD hF hW
      have e23 : a1.tmps.getD 23 undef = .string (bs (left.col)) := hF.y 3 _ 23 rfl rfl (hD 3 (by kernel_rfl))
      have hN := fun W q => hW.far hL (i := 4) (w'' := W) (by decide) (by decide) (fun h => absurd h (by decide)) (by decide) q
      refine fit_val rfl hb rfl hF (hN _ (Keeps.refl _ _)) ?_
      show (execOp _ _).run _ _ = Result.ok (.value (.string (bs ([32, 119, 104, 101, 114, 101, 32] ++ left.col)))) _
      clear hN hF hD hb
      simp only [execOp, Act.eval, e23]
      go_simp
      try omega
     ·intro hb g L a1 w1 hL hD hF hW
      have e24 : a1.tmps.getD 24 undef = .string (bs ([32, 119, 104, 101, 114, 101, 32] ++ left.col)) := hF.y 4 _ 24 rfl rfl (hD 4 (by kernel_rfl))
      have hN := fun W q => hW.far hL (i := 5) (w'' := W) (by decide) (by decide) (fun h => absurd h (by decide)) (by decide) q
      refine fit_val rfl hb rfl hF (hN _ (Keeps.refl _ _)) ?_
      show (execOp _ _).run _ _ = Result.ok (.value (.string (bs (([32, 119, 104, 101, 114, 101, 32] ++ left.col) ++ [32])))) _
      clear hN hF hD hb
      simp only [execOp, Act.eval, e24]
      go_simp
      try omega
     ·intro hb g L a1 w1 hL hD hF hW
      have e1 : a1.tmps.getD 1 undef = .pointer (some ⟨B, 0, none⟩) := hF.old 1 (by kernel_rfl)
      have hN := fun W q => hW.far hL (i := 6) (w'' := W) (by decide) (by decide) (fun h => absurd h (by decide)) (by decide) q
      refine fit_val rfl hb rfl hF (hN _ (Keeps.refl _ _)) ?_
      show (execOp _ _).run _ _ = Result.ok (.value (.pointer (some ⟨B, 5, none⟩))) _
      clear hN hF hD hb
      simp only [execOp, Act.eval, e1]
      go_simp
     ·intro hb g L a1 w1 hL hD hF hW
      have e26 : a1.tmps.getD 26 undef = .pointer (some ⟨B, 5, none⟩) := hF.y 6 _ 26 rfl rfl (hD 6 (by kernel_rfl))
      have hN := fun W q => hW.far hL (i := 7) (w'' := W) (by decide) (by decide) (fun h => absurd h (by decide)) (by decide) q
      refine fit_val rfl hb rfl hF (hN _ (Keeps.refl _ _)) ?_
      show (execOp _ _).run _ _ = Result.ok (.value (.string (bs (op)))) _
      clear hN hF hD hb
      obtain ⟨z0, z1, z2, z3, z4, z5, z6, z7, z8, z9⟩ := HZB.out w1 hW.kp
      simp only [execOp, Act.eval, e26]
      go_simp
     ·intro hb g L a1 w1 hL hD hF hW
      have e25 : a1.tmps.getD 25 undef = .string (bs (([32, 119, 104, 101, 114, 101, 32] ++ left.col) ++ [32])) := hF.y 5 _ 25 rfl rfl (hD 5 (by kernel_rfl))
      have e27 : a1.tmps.getD 27 undef = .string (bs (op)) := hF.y 7 _ 27 rfl rfl (hD 7 (by kernel_rfl))
      have hN := fun W q => hW.far hL (i := 8) (w'' := W) (by decide) (by decide) (fun h => absurd h (by decide)) (by decide) q
      refine fit_val rfl hb rfl hF (hN _ (Keeps.refl _ _)) ?_
      show (execOp _ _).run _ _ = Result.ok (.value (.string (bs ((([32, 119, 104, 101, 114, 101, 32] ++ left.col) ++ [32]) ++ op)))) _
      clear hN hF hD hb
      simp only [execOp, Act.eval, e25, e27]
      go_simp
      try omega
     ·intro hb g L a1 w1 hL hD hF hW
      have e28 : a1.tmps.getD 28 undef = .string (bs ((([32, 119, 104, 101, 114, 101, 32] ++ left.col) ++ [32]) ++ op)) := hF.y 8 _ 28 rfl rfl (hD 8 (by kernel_rfl))
      have hN := fun W q => hW.far hL (i := 9) (w'' := W) (by decide) (by decide) (fun h => absurd h (by decide)) (by decide) q
      refine fit_val rfl hb rfl hF (hN _ (Keeps.refl _ _)) ?_
      show (execOp _ _).run _ _ = Result.ok (.value (.string (bs (((([32, 119, 104, 101, 114, 101, 32] ++ left.col) ++ [32]) ++ op) ++ [32])))) _
      clear hN hF hD hb
      simp only [execOp, Act.eval, e28]
      go_simp
      try omega
     ·intro hb g L a1 w1 hL hD hF hW
      have e1 : a1.tmps.getD 1 undef = .pointer (some ⟨B, 0, none⟩) := hF.old 1 (by kernel_rfl)
      have hN := fun W q => hW.far hL (i := 10) (w'' := W) (by decide) (by decide) (fun h => absurd h (by decide)) (by decide) q
      refine fit_val rfl hb rfl hF (hN _ (Keeps.refl _ _)) ?_
      show (execOp _ _).run _ _ = Result.ok (.value (.pointer (some ⟨B, 10, none⟩))) _
      clear hN hF hD hb
      simp only [execOp, Act.eval, e1]
      go_simp
     ·intro hb g L a1 w1 hL hD hF hW
      have e30 : a1.tmps.getD 30 undef = .pointer (some ⟨B, 10, none⟩) := hF.y 10 _ 30 rfl rfl (hD 10 (by kernel_rfl))
      have hN := fun W q => hW.far hL (i := 11) (w'' := W) (by decide) (by decide) (fun h => absurd h (by decide)) (by decide) q
      refine fit_val rfl hb rfl hF (hN _ (Keeps.refl _ _)) ?_
      show (execOp _ _).run _ _ = Result.ok (.value (arV right)) _
      clear hN hF hD hb
      obtain ⟨z0, z1, z2, z3, z4, z5, z6, z7, z8, z9⟩ := HZB.out w1 hW.kp
      simp only [execOp, Act.eval, e30]
      go_simp
      rfl
     ·intro hb g L a1 w1 hL hD hF hW
      have e31 : a1.tmps.getD 31 undef = arV right := hF.y 11 _ 31 rfl rfl (hD 11 (by kernel_rfl))
      have hN := fun W q => hW.far hL (i := 12) (w'' := W) (by decide) (by decide) (fun h => absurd h (by decide)) (by decide) q
      refine fit_call (f := 44) (args := #[arV right]) rfl hb rfl hF ?_ ?_
      ·clear hN hF hD hb
       simp only [execOp, Act.eval, e31]
       go_simp
      ·exact (HAR.out _ (HE.out.quiet (HKD.out.trans hW.kp))).mono fun _ _ ⟨he, hk⟩ => ⟨he, hN _ hk⟩
     ·intro hb g L a1 w1 hL hD hF hW
      have e29 : a1.tmps.getD 29 undef = .string (bs (((([32, 119, 104, 101, 114, 101, 32] ++ left.col) ++ [32]) ++ op) ++ [32])) := hF.y 9 _ 29 rfl rfl (hD 9 (by kernel_rfl))
      have e32 : a1.tmps.getD 32 undef = .string (bs (TR)) := hF.y 12 _ 32 rfl rfl (hD 12 (by kernel_rfl))
      have hN := fun W q => hW.far hL (i := 13) (w'' := W) (by decide) (by decide) (fun h => absurd h (by decide)) (by decide) q
      refine fit_val rfl hb rfl hF (hN _ (Keeps.refl _ _)) ?_
      show (execOp _ _).run _ _ = Result.ok (.value (.string (bs ((((([32, 119, 104, 101, 114, 101, 32] ++ left.col) ++ [32]) ++ op) ++ [32]) ++ TR)))) _
      clear hN hF hD hb
      simp only [execOp, Act.eval, e29, e32]
      go_simp
      try omega
     ·intro hb g L a1 w1 hL hD hF hW
      have e20 : a1.tmps.getD 20 undef = .map (some g) := hF.y 0 _ 20 rfl rfl (hD 0 (by kernel_rfl))
      have e33 : a1.tmps.getD 33 undef = .string (bs ((((([32, 119, 104, 101, 114, 101, 32] ++ left.col) ++ [32]) ++ op) ++ [32]) ++ TR)) := hF.y 13 _ 33 rfl rfl (hD 13 (by kernel_rfl))
      have hN := hW
      obtain ⟨n, hn, hm⟩ := hW.mp (hD 0 (by kernel_rfl))
      obtain ⟨w2, hrun, hm2, hg2⟩ := hm.store (T := 105) Tryz.underlying105 Tryz.underlying3 1 (.string (bs (xWhere left.col op TR))) (by decide) (Nat.lt_of_le_of_lt (show n ≤ 57 by omega) (by decide))
      rw [mapL_put0] at hm2
      refine wpOp_skip rfl rfl ?_ ⟨g, hF.put hb rfl, hW.ins hL (by decide) (by decide) (by decide) (hD 0 (by kernel_rfl)) hn hm2 hg2⟩
      have e33' : a1.tmps.getD 33 undef = .string (bs (xWhere left.col op TR)) := e33
      clear hF hD hb hN hm hm2 hW e33
      simp only [execOp, Act.eval, e20, e33']
      go_simp
     ·intro hb g L a1 w1 hL hD hF hW
      have e1 : a1.tmps.getD 1 undef = .pointer (some ⟨B, 0, none⟩) := hF.old 1 (by kernel_rfl)
      have hN := fun W q => hW.far hL (i := 15) (w'' := W) (by decide) (by decide) (fun h => absurd h (by decide)) (by decide) q
      refine fit_val rfl hb rfl hF (hN _ (Keeps.refl _ _)) ?_
      show (execOp _ _).run _ _ = Result.ok (.value (.pointer (some ⟨B, 6, none⟩))) _
      clear hN hF hD hb
      simp only [execOp, Act.eval, e1]
      go_simp
     ·intro hb g L a1 w1 hL hD hF hW
      have e34 : a1.tmps.getD 34 undef = .pointer (some ⟨B, 6, none⟩) := hF.y 15 _ 34 rfl rfl (hD 15 (by kernel_rfl))
      have hN := fun W q => hW.far hL (i := 16) (w'' := W) (by decide) (by decide) (fun h => absurd h (by decide)) (by decide) q
      refine fit_val rfl hb rfl hF (hN _ (Keeps.refl _ _)) ?_
      show (execOp _ _).run _ _ = Result.ok (.value (.pointer (some ⟨B, 6, none⟩))) _
      clear hN hF hD hb
      simp only [execOp, Act.eval, e34]
      go_simp
     ·intro hb g L a1 w1 hL hD hF hW
      have e35 : a1.tmps.getD 35 undef = .pointer (some ⟨B, 6, none⟩) := hF.y 16 _ 35 rfl rfl (hD 16 (by kernel_rfl))
      have hN := fun W q => hW.far hL (i := 17) (w'' := W) (by decide) (by decide) (fun h => absurd h (by decide)) (by decide) q
      refine fit_val rfl hb rfl hF (hN _ (Keeps.refl _ _)) ?_
      show (execOp _ _).run _ _ = Result.ok (.value (.string (bs (left.col)))) _
      clear hN hF hD hb
      obtain ⟨z0, z1, z2, z3, z4, z5, z6, z7, z8, z9⟩ := HZB.out w1 hW.kp
      simp only [execOp, Act.eval, e35]
      go_simp
     ·intro hb g L a1 w1 hL hD hF hW
      have e36 : a1.tmps.getD 36 undef = .string (bs (left.col)) := hF.y 17 _ 36 rfl rfl (hD 17 (by kernel_rfl))
      have hN := fun W q => hW.far hL (i := 18) (w'' := W) (by decide) (by decide) (fun h => absurd h (by decide)) (by decide) q
      refine fit_val rfl hb rfl hF (hN _ (Keeps.refl _ _)) ?_
      show (execOp _ _).run _ _ = Result.ok (.value (.string (bs ([32, 119, 104, 101, 114, 101, 32] ++ left.col)))) _
      clear hN hF hD hb
      simp only [execOp, Act.eval, e36]
      go_simp
      try omega
     ·intro hb g L a1 w1 hL hD hF hW
      have e37 : a1.tmps.getD 37 undef = .string (bs ([32, 119, 104, 101, 114, 101, 32] ++ left.col)) := hF.y 18 _ 37 rfl rfl (hD 18 (by kernel_rfl))
      have hN := fun W q => hW.far hL (i := 19) (w'' := W) (by decide) (by decide) (fun h => absurd h (by decide)) (by decide) q
      refine fit_val rfl hb rfl hF (hN _ (Keeps.refl _ _)) ?_
      show (execOp _ _).run _ _ = Result.ok (.value (.string (bs (([32, 119, 104, 101, 114, 101, 32] ++ left.col) ++ [32])))) _
      clear hN hF hD hb
      simp only [execOp, Act.eval, e37]
      go_simp
      try omega
     ·intro hb g L a1 w1 hL hD hF hW
      have e1 : a1.tmps.getD 1 undef = .pointer (some ⟨B, 0, none⟩) := hF.old 1 (by kernel_rfl)
      have hN := fun W q => hW.far hL (i := 20) (w'' := W) (by decide) (by decide) (fun h => absurd h (by decide)) (by decide) q
      refine fit_val rfl hb rfl hF (hN _ (Keeps.refl _ _)) ?_
      show (execOp _ _).run _ _ = Result.ok (.value (.pointer (some ⟨B, 5, none⟩))) _
      clear hN hF hD hb
      simp only [execOp, Act.eval, e1]
      go_simp
     ·intro hb g L a1 w1 hL hD hF hW
      have e39 : a1.tmps.getD 39 undef = .pointer (some ⟨B, 5, none⟩) := hF.y 20 _ 39 rfl rfl (hD 20 (by kernel_rfl))
      have hN := fun W q => hW.far hL (i := 21) (w'' := W) (by decide) (by decide) (fun h => absurd h (by decide)) (by decide) q
      refine fit_val rfl hb rfl hF (hN _ (Keeps.refl _ _)) ?_
      show (execOp _ _).run _ _ = Result.ok (.value (.string (bs (op)))) _
      clear hN hF hD hb
      obtain ⟨z0, z1, z2, z3, z4, z5, z6, z7, z8, z9⟩ := HZB.out w1 hW.kp
      simp only [execOp, Act.eval, e39]
      go_simp
     ·intro hb g L a1 w1 hL hD hF hW
      have e38 : a1.tmps.getD 38 undef = .string (bs (([32, 119, 104, 101, 114, 101, 32] ++ left.col) ++ [32])) := hF.y 19 _ 38 rfl rfl (hD 19 (by kernel_rfl))
      have e40 : a1.tmps.getD 40 undef = .string (bs (op)) := hF.y 21 _ 40 rfl rfl (hD 21 (by kernel_rfl))
      have hN := fun W q => hW.far hL (i := 22) (w'' := W) (by decide) (by decide) (fun h => absurd h (by decide)) (by decide) q
      refine fit_val rfl hb rfl hF (hN _ (Keeps.refl _ _)) ?_
      show (execOp _ _).run _ _ = Result.ok (.value (.string (bs ((([32, 119, 104, 101, 114, 101, 32] ++ left.col) ++ [32]) ++ op)))) _
      clear hN hF hD hb
      simp only [execOp, Act.eval, e38, e40]
      go_simp
      try omega
     ·intro hb g L a1 w1 hL hD hF hW
      have e41 : a1.tmps.getD 41 undef = .string (bs ((([32, 119, 104, 101, 114, 101, 32] ++ left.col) ++ [32]) ++ op)) := hF.y 22 _ 41 rfl rfl (hD 22 (by kernel_rfl))
      have hN := fun W q => hW.far hL (i := 23) (w'' := W) (by decide) (by decide) (fun h => absurd h (by decide)) (by decide) q
      refine fit_val rfl hb rfl hF (hN _ (Keeps.refl _ _)) ?_
      show (execOp _ _).run _ _ = Result.ok (.value (.string (bs (((([32, 119, 104, 101, 114, 101, 32] ++ left.col) ++ [32]) ++ op) ++ [32])))) _
      clear hN hF hD hb
      simp only [execOp, Act.eval, e41]
      go_simp
      try omega
     ·intro hb g L a1 w1 hL hD hF hW
      have e1 : a1.tmps.getD 1 undef = .pointer (some ⟨B, 0, none⟩) := hF.old 1 (by kernel_rfl)
      have hN := fun W q => hW.far hL (i := 24) (w'' := W) (by decide) (by decide) (fun h => absurd h (by decide)) (by decide) q
      refine fit_val rfl hb rfl hF (hN _ (Keeps.refl _ _)) ?_
      show (execOp _ _).run _ _ = Result.ok (.value (.pointer (some ⟨B, 10, none⟩))) _
      clear hN hF hD hb
      simp only [execOp, Act.eval, e1]
      go_simp
     ·intro hb g L a1 w1 hL hD hF hW
      have e43 : a1.tmps.getD 43 undef = .pointer (some ⟨B, 10, none⟩) := hF.y 24 _ 43 rfl rfl (hD 24 (by kernel_rfl))
      have hN := fun W q => hW.far hL (i := 25) (w'' := W) (by decide) (by decide) (fun h => absurd h (by decide)) (by decide) q
      refine fit_val rfl hb rfl hF (hN _ (Keeps.refl _ _)) ?_
      show (execOp _ _).run _ _ = Result.ok (.value (arV right)) _
      clear hN hF hD hb
      obtain ⟨z0, z1, z2, z3, z4, z5, z6, z7, z8, z9⟩ := HZB.out w1 hW.kp
      simp only [execOp, Act.eval, e43]
      go_simp
      rfl
     ·intro hb g L a1 w1 hL hD hF hW
      have e44 : a1.tmps.getD 44 undef = arV right := hF.y 25 _ 44 rfl rfl (hD 25 (by kernel_rfl))
      have hN := fun W q => hW.far hL (i := 26) (w'' := W) (by decide) (by decide) (fun h => absurd h (by decide)) (by decide) q
      refine fit_call (f := 44) (args := #[arV right]) rfl hb rfl hF ?_ ?_
      ·clear hN hF hD hb
       simp only [execOp, Act.eval, e44]
       go_simp
      ·exact (HAR.out _ (HE.out.quiet (HKD.out.trans hW.kp))).mono fun _ _ ⟨he, hk⟩ => ⟨he, hN _ hk⟩
     ·intro hb g L a1 w1 hL hD hF hW
      have e42 : a1.tmps.getD 42 undef = .string (bs (((([32, 119, 104, 101, 114, 101, 32] ++ left.col) ++ [32]) ++ op) ++ [32])) := hF.y 23 _ 42 rfl rfl (hD 23 (by kernel_rfl))
      have e45 : a1.tmps.getD 45 undef = .string (bs (TR)) := hF.y 26 _ 45 rfl rfl (hD 26 (by kernel_rfl))
      have hN := fun W q => hW.far hL (i := 27) (w'' := W) (by decide) (by decide) (fun h => absurd h (by decide)) (by decide) q
      refine fit_val rfl hb rfl hF (hN _ (Keeps.refl _ _)) ?_
      show (execOp _ _).run _ _ = Result.ok (.value (.string (bs ((((([32, 119, 104, 101, 114, 101, 32] ++ left.col) ++ [32]) ++ op) ++ [32]) ++ TR)))) _
      clear hN hF hD hb
      simp only [execOp, Act.eval, e42, e45]
      go_simp
      try omega
     ·intro hb g L a1 w1 hL hD hF hW
      have e20 : a1.tmps.getD 20 undef = .map (some g) := hF.y 0 _ 20 rfl rfl (hD 0 (by kernel_rfl))
      have e46 : a1.tmps.getD 46 undef = .string (bs ((((([32, 119, 104, 101, 114, 101, 32] ++ left.col) ++ [32]) ++ op) ++ [32]) ++ TR)) := hF.y 27 _ 46 rfl rfl (hD 27 (by kernel_rfl))
      have hN := hW
      obtain ⟨n, hn, hm⟩ := hW.mp (hD 0 (by kernel_rfl))
      obtain ⟨w2, hrun, hm2, hg2⟩ := hm.store (T := 105) Tryz.underlying105 Tryz.underlying3 9 (.string (bs (xWhere left.col op TR))) (by decide) (Nat.lt_of_le_of_lt (show n ≤ 57 by omega) (by decide))
      rw [mapL_put1] at hm2
      refine wpOp_skip rfl rfl ?_ ⟨g, hF.put hb rfl, hW.ins hL (by decide) (by decide) (by decide) (hD 0 (by kernel_rfl)) hn hm2 hg2⟩
      have e46' : a1.tmps.getD 46 undef = .string (bs (xWhere left.col op TR)) := e46
      clear hF hD hb hN hm hm2 hW e46
      simp only [execOp, Act.eval, e20, e46']
      go_simp
     ·intro hb g L a1 w1 hL hD hF hW
      have e5 : a1.tmps.getD 5 undef = .string (bs (CT)) := hF.old 5 (by kernel_rfl)
      have hN := fun W q => hW.far hL (i := 29) (w'' := W) (by decide) (by decide) (fun h => absurd h (by decide)) (by decide) q
      refine fit_val rfl hb rfl hF (hN _ (Keeps.refl _ _)) ?_
      show (execOp _ _).run _ _ = Result.ok (.value (.string (bs (CT)))) _
      clear hN hF hD hb
      simp only [execOp, Act.eval, e5]
      go_simp
     ·intro hb g L a1 w1 hL hD hF hW
      have e47 : a1.tmps.getD 47 undef = .string (bs (CT)) := hF.y 29 _ 47 rfl rfl (hD 29 (by kernel_rfl))
      have hN := fun W q => hW.far hL (i := 30) (w'' := W) (by decide) (by decide) (fun h => absurd h (by decide)) (by decide) q
      refine fit_val rfl hb rfl hF (hN _ (Keeps.refl _ _)) ?_
      show (execOp _ _).run _ _ = Result.ok (.value (.string (bs ([58, 32] ++ CT)))) _
      clear hN hF hD hb
      simp only [execOp, Act.eval, e47]
      go_simp
      try omega
     ·intro hb g L a1 w1 hL hD hF hW
      have e48 : a1.tmps.getD 48 undef = .string (bs ([58, 32] ++ CT)) := hF.y 30 _ 48 rfl rfl (hD 30 (by kernel_rfl))
      have hN := fun W q => hW.far hL (i := 31) (w'' := W) (by decide) (by decide) (fun h => absurd h (by decide)) (by decide) q
      refine fit_val rfl hb rfl hF (hN _ (Keeps.refl _ _)) ?_
      show (execOp _ _).run _ _ = Result.ok (.value (.string (bs (([58, 32] ++ CT) ++ [32, 61, 32])))) _
      clear hN hF hD hb
      simp only [execOp, Act.eval, e48]
      go_simp
      try omega
     ·intro hb g L a1 w1 hL hD hF hW
      have e1 : a1.tmps.getD 1 undef = .pointer (some ⟨B, 0, none⟩) := hF.old 1 (by kernel_rfl)
      have hN := fun W q => hW.far hL (i := 32) (w'' := W) (by decide) (by decide) (fun h => absurd h (by decide)) (by decide) q
      refine fit_val rfl hb rfl hF (hN _ (Keeps.refl _ _)) ?_
      show (execOp _ _).run _ _ = Result.ok (.value (.pointer (some ⟨B, 6, none⟩))) _
      clear hN hF hD hb
      simp only [execOp, Act.eval, e1]
      go_simp
     ·intro hb g L a1 w1 hL hD hF hW
      have e50 : a1.tmps.getD 50 undef = .pointer (some ⟨B, 6, none⟩) := hF.y 32 _ 50 rfl rfl (hD 32 (by kernel_rfl))
      have hN := fun W q => hW.far hL (i := 33) (w'' := W) (by decide) (by decide) (fun h => absurd h (by decide)) (by decide) q
      refine fit_val rfl hb rfl hF (hN _ (Keeps.refl _ _)) ?_
      show (execOp _ _).run _ _ = Result.ok (.value (arV left)) _
      clear hN hF hD hb
      obtain ⟨z0, z1, z2, z3, z4, z5, z6, z7, z8, z9⟩ := HZB.out w1 hW.kp
      simp only [execOp, Act.eval, e50]
      go_simp
      rfl
     ·intro hb g L a1 w1 hL hD hF hW
      have e51 : a1.tmps.getD 51 undef = arV left := hF.y 33 _ 51 rfl rfl (hD 33 (by kernel_rfl))
      have hN := fun W q => hW.far hL (i := 34) (w'' := W) (by decide) (by decide) (fun h => absurd h (by decide)) (by decide) q
      refine fit_call (f := 44) (args := #[arV left]) rfl hb rfl hF ?_ ?_
      ·clear hN hF hD hb
       simp only [execOp, Act.eval, e51]
       go_simp
      ·exact (HAL.out _ (HE.out.quiet (HKD.out.trans hW.kp))).mono fun _ _ ⟨he, hk⟩ => ⟨he, hN _ hk⟩
     ·intro hb g L a1 w1 hL hD hF hW
      have e49 : a1.tmps.getD 49 undef = .string (bs (([58, 32] ++ CT) ++ [32, 61, 32])) := hF.y 31 _ 49 rfl rfl (hD 31 (by kernel_rfl))
      have e52 : a1.tmps.getD 52 undef = .string (bs (TL)) := hF.y 34 _ 52 rfl rfl (hD 34 (by kernel_rfl))
      have hN := fun W q => hW.far hL (i := 35) (w'' := W) (by decide) (by decide) (fun h => absurd h (by decide)) (by decide) q
      refine fit_val rfl hb rfl hF (hN _ (Keeps.refl _ _)) ?_
      show (execOp _ _).run _ _ = Result.ok (.value (.string (bs ((([58, 32] ++ CT) ++ [32, 61, 32]) ++ TL)))) _
      clear hN hF hD hb
      simp only [execOp, Act.eval, e49, e52]
      go_simp
      try omega
     ·intro hb g L a1 w1 hL hD hF hW
      have e53 : a1.tmps.getD 53 undef = .string (bs ((([58, 32] ++ CT) ++ [32, 61, 32]) ++ TL)) := hF.y 35 _ 53 rfl rfl (hD 35 (by kernel_rfl))
      have hN := fun W q => hW.far hL (i := 36) (w'' := W) (by decide) (by decide) (fun h => absurd h (by decide)) (by decide) q
      refine fit_val rfl hb rfl hF (hN _ (Keeps.refl _ _)) ?_
      show (execOp _ _).run _ _ = Result.ok (.value (.string (bs (((([58, 32] ++ CT) ++ [32, 61, 32]) ++ TL) ++ [32])))) _
      clear hN hF hD hb
      simp only [execOp, Act.eval, e53]
      go_simp
      try omega
     ·intro hb g L a1 w1 hL hD hF hW
      have e1 : a1.tmps.getD 1 undef = .pointer (some ⟨B, 0, none⟩) := hF.old 1 (by kernel_rfl)
      have hN := fun W q => hW.far hL (i := 37) (w'' := W) (by decide) (by decide) (fun h => absurd h (by decide)) (by decide) q
      refine fit_val rfl hb rfl hF (hN _ (Keeps.refl _ _)) ?_
      show (execOp _ _).run _ _ = Result.ok (.value (.pointer (some ⟨B, 5, none⟩))) _
      clear hN hF hD hb
      simp only [execOp, Act.eval, e1]
      go_simp
     ·intro hb g L a1 w1 hL hD hF hW
      have e55 : a1.tmps.getD 55 undef = .pointer (some ⟨B, 5, none⟩) := hF.y 37 _ 55 rfl rfl (hD 37 (by kernel_rfl))
      have hN := fun W q => hW.far hL (i := 38) (w'' := W) (by decide) (by decide) (fun h => absurd h (by decide)) (by decide) q
      refine fit_val rfl hb rfl hF (hN _ (Keeps.refl _ _)) ?_
      show (execOp _ _).run _ _ = Result.ok (.value (.string (bs (op)))) _
      clear hN hF hD hb
      obtain ⟨z0, z1, z2, z3, z4, z5, z6, z7, z8, z9⟩ := HZB.out w1 hW.kp
      simp only [execOp, Act.eval, e55]
      go_simp
     ·intro hb g L a1 w1 hL hD hF hW
      have e54 : a1.tmps.getD 54 undef = .string (bs (((([58, 32] ++ CT) ++ [32, 61, 32]) ++ TL) ++ [32])) := hF.y 36 _ 54 rfl rfl (hD 36 (by kernel_rfl))
      have e56 : a1.tmps.getD 56 undef = .string (bs (op)) := hF.y 38 _ 56 rfl rfl (hD 38 (by kernel_rfl))
      have hN := fun W q => hW.far hL (i := 39) (w'' := W) (by decide) (by decide) (fun h => absurd h (by decide)) (by decide) q
      refine fit_val rfl hb rfl hF (hN _ (Keeps.refl _ _)) ?_
      show (execOp _ _).run _ _ = Result.ok (.value (.string (bs ((((([58, 32] ++ CT) ++ [32, 61, 32]) ++ TL) ++ [32]) ++ op)))) _
      clear hN hF hD hb
      simp only [execOp, Act.eval, e54, e56]
      go_simp
      try omega
     ·intro hb g L a1 w1 hL hD hF hW
      have e57 : a1.tmps.getD 57 undef = .string (bs ((((([58, 32] ++ CT) ++ [32, 61, 32]) ++ TL) ++ [32]) ++ op)) := hF.y 39 _ 57 rfl rfl (hD 39 (by kernel_rfl))
      have hN := fun W q => hW.far hL (i := 40) (w'' := W) (by decide) (by decide) (fun h => absurd h (by decide)) (by decide) q
      refine fit_val rfl hb rfl hF (hN _ (Keeps.refl _ _)) ?_
      show (execOp _ _).run _ _ = Result.ok (.value (.string (bs (((((([58, 32] ++ CT) ++ [32, 61, 32]) ++ TL) ++ [32]) ++ op) ++ [32])))) _
      clear hN hF hD hb
      simp only [execOp, Act.eval, e57]
      go_simp
      try omega
     ·intro hb g L a1 w1 hL hD hF hW
      have e1 : a1.tmps.getD 1 undef = .pointer (some ⟨B, 0, none⟩) := hF.old 1 (by kernel_rfl)
      have hN := fun W q => hW.far hL (i := 41) (w'' := W) (by decide) (by decide) (fun h => absurd h (by decide)) (by decide) q
      refine fit_val rfl hb rfl hF (hN _ (Keeps.refl _ _)) ?_
      show (execOp _ _).run _ _ = Result.ok (.value (.pointer (some ⟨B, 10, none⟩))) _
      clear hN hF hD hb
      simp only [execOp, Act.eval, e1]
      go_simp
     ·intro hb g L a1 w1 hL hD hF hW
      have e59 : a1.tmps.getD 59 undef = .pointer (some ⟨B, 10, none⟩) := hF.y 41 _ 59 rfl rfl (hD 41 (by kernel_rfl))
      have hN := fun W q => hW.far hL (i := 42) (w'' := W) (by decide) (by decide) (fun h => absurd h (by decide)) (by decide) q
      refine fit_val rfl hb rfl hF (hN _ (Keeps.refl _ _)) ?_
      show (execOp _ _).run _ _ = Result.ok (.value (arV right)) _
      clear hN hF hD hb
      obtain ⟨z0, z1, z2, z3, z4, z5, z6, z7, z8, z9⟩ := HZB.out w1 hW.kp
      simp only [execOp, Act.eval, e59]
      go_simp
      rfl
     ·intro hb g L a1 w1 hL hD hF hW
      have e60 : a1.tmps.getD 60 undef = arV right := hF.y 42 _ 60 rfl rfl (hD 42 (by kernel_rfl))
      have hN := fun W q => hW.far hL (i := 43) (w'' := W) (by decide) (by decide) (fun h => absurd h (by decide)) (by decide) q
      refine fit_call (f := 44) (args := #[arV right]) rfl hb rfl hF ?_ ?_
      ·clear hN hF hD hb
       simp only [execOp, Act.eval, e60]
       go_simp
      ·exact (HAR.out _ (HE.out.quiet (HKD.out.trans hW.kp))).mono fun _ _ ⟨he, hk⟩ => ⟨he, hN _ hk⟩
     ·intro hb g L a1 w1 hL hD hF hW
      have e58 : a1.tmps.getD 58 undef = .string (bs (((((([58, 32] ++ CT) ++ [32, 61, 32]) ++ TL) ++ [32]) ++ op) ++ [32])) := hF.y 40 _ 58 rfl rfl (hD 40 (by kernel_rfl))
      have e61 : a1.tmps.getD 61 undef = .string (bs (TR)) := hF.y 43 _ 61 rfl rfl (hD 43 (by kernel_rfl))
      have hN := fun W q => hW.far hL (i := 44) (w'' := W) (by decide) (by decide) (fun h => absurd h (by decide)) (by decide) q
      refine fit_val rfl hb rfl hF (hN _ (Keeps.refl _ _)) ?_
      show (execOp _ _).run _ _ = Result.ok (.value (.string (bs ((((((([58, 32] ++ CT) ++ [32, 61, 32]) ++ TL) ++ [32]) ++ op) ++ [32]) ++ TR)))) _
      clear hN hF hD hb
      simp only [execOp, Act.eval, e58, e61]
      go_simp
      try omega
     ·intro hb g L a1 w1 hL hD hF hW
      have e20 : a1.tmps.getD 20 undef = .map (some g) := hF.y 0 _ 20 rfl rfl (hD 0 (by kernel_rfl))
      have e62 : a1.tmps.getD 62 undef = .string (bs ((((((([58, 32] ++ CT) ++ [32, 61, 32]) ++ TL) ++ [32]) ++ op) ++ [32]) ++ TR)) := hF.y 44 _ 62 rfl rfl (hD 44 (by kernel_rfl))
      have hN := hW
      obtain ⟨n, hn, hm⟩ := hW.mp (hD 0 (by kernel_rfl))
      obtain ⟨w2, hrun, hm2, hg2⟩ := hm.store (T := 105) Tryz.underlying105 Tryz.underlying3 2 (.string (bs (xSet op CT TL TR))) (by decide) (Nat.lt_of_le_of_lt (show n ≤ 57 by omega) (by decide))
      rw [mapL_put2] at hm2
      refine wpOp_skip rfl rfl ?_ ⟨g, hF.put hb rfl, hW.ins hL (by decide) (by decide) (by decide) (hD 0 (by kernel_rfl)) hn hm2 hg2⟩
      have e62' : a1.tmps.getD 62 undef = .string (bs (xSet op CT TL TR)) := e62
      clear hF hD hb hN hm hm2 hW e62
      simp only [execOp, Act.eval, e20, e62']
      go_simp
     ·intro hb g L a1 w1 hL hD hF hW
      have e5 : a1.tmps.getD 5 undef = .string (bs (CT)) := hF.old 5 (by kernel_rfl)
      have hN := fun W q => hW.far hL (i := 46) (w'' := W) (by decide) (by decide) (fun h => absurd h (by decide)) (by decide) q
      refine fit_val rfl hb rfl hF (hN _ (Keeps.refl _ _)) ?_
      show (execOp _ _).run _ _ = Result.ok (.value (.string (bs (CT)))) _
      clear hN hF hD hb
      simp only [execOp, Act.eval, e5]
      go_simp
     ·intro hb g L a1 w1 hL hD hF hW
      have e63 : a1.tmps.getD 63 undef = .string (bs (CT)) := hF.y 46 _ 63 rfl rfl (hD 46 (by kernel_rfl))
      have hN := fun W q => hW.far hL (i := 47) (w'' := W) (by decide) (by decide) (fun h => absurd h (by decide)) (by decide) q
      refine fit_val rfl hb rfl hF (hN _ (Keeps.refl _ _)) ?_
      show (execOp _ _).run _ _ = Result.ok (.value (.string (bs ([32, 98, 121, 32] ++ CT)))) _
      clear hN hF hD hb
      simp only [execOp, Act.eval, e63]
      go_simp
      try omega
     ·intro hb g L a1 w1 hL hD hF hW
      have e20 : a1.tmps.getD 20 undef = .map (some g) := hF.y 0 _ 20 rfl rfl (hD 0 (by kernel_rfl))
      have e64 : a1.tmps.getD 64 undef = .string (bs ([32, 98, 121, 32] ++ CT)) := hF.y 47 _ 64 rfl rfl (hD 47 (by kernel_rfl))
      have hN := hW
      obtain ⟨n, hn, hm⟩ := hW.mp (hD 0 (by kernel_rfl))
      obtain ⟨w2, hrun, hm2, hg2⟩ := hm.store (T := 105) Tryz.underlying105 Tryz.underlying3 3 (.string (bs (xBy CT))) (by decide) (Nat.lt_of_le_of_lt (show n ≤ 57 by omega) (by decide))
      rw [mapL_put3] at hm2
      refine wpOp_skip rfl rfl ?_ ⟨g, hF.put hb rfl, hW.ins hL (by decide) (by decide) (by decide) (hD 0 (by kernel_rfl)) hn hm2 hg2⟩
      have e64' : a1.tmps.getD 64 undef = .string (bs (xBy CT)) := e64
      clear hF hD hb hN hm hm2 hW e64
      simp only [execOp, Act.eval, e20, e64']
      go_simp
     ·intro hb g L a1 w1 hL hD hF hW
      have e5 : a1.tmps.getD 5 undef = .string (bs (CT)) := hF.old 5 (by kernel_rfl)
      have hN := fun W q => hW.far hL (i := 49) (w'' := W) (by decide) (by decide) (fun h => absurd h (by decide)) (by decide) q
      refine fit_val rfl hb rfl hF (hN _ (Keeps.refl _ _)) ?_
      show (execOp _ _).run _ _ = Result.ok (.value (.string (bs (CT)))) _
      clear hN hF hD hb
      simp only [execOp, Act.eval, e5]
      go_simp
     ·intro hb g L a1 w1 hL hD hF hW
      have e65 : a1.tmps.getD 65 undef = .string (bs (CT)) := hF.y 49 _ 65 rfl rfl (hD 49 (by kernel_rfl))
      have hN := fun W q => hW.far hL (i := 50) (w'' := W) (by decide) (by decide) (fun h => absurd h (by decide)) (by decide) q
      refine fit_val rfl hb rfl hF (hN _ (Keeps.refl _ _)) ?_
      show (execOp _ _).run _ _ = Result.ok (.value (.string (bs ([32, 98, 121, 32] ++ CT)))) _
      clear hN hF hD hb
      simp only [execOp, Act.eval, e65]
      go_simp
      try omega
     ·intro hb g L a1 w1 hL hD hF hW
      have e20 : a1.tmps.getD 20 undef = .map (some g) := hF.y 0 _ 20 rfl rfl (hD 0 (by kernel_rfl))
      have e66 : a1.tmps.getD 66 undef = .string (bs ([32, 98, 121, 32] ++ CT)) := hF.y 50 _ 66 rfl rfl (hD 50 (by kernel_rfl))
      have hN := hW
      obtain ⟨n, hn, hm⟩ := hW.mp (hD 0 (by kernel_rfl))
      obtain ⟨w2, hrun, hm2, hg2⟩ := hm.store (T := 105) Tryz.underlying105 Tryz.underlying3 4 (.string (bs (xBy CT))) (by decide) (Nat.lt_of_le_of_lt (show n ≤ 57 by omega) (by decide))
      rw [mapL_put4] at hm2
      refine wpOp_skip rfl rfl ?_ ⟨g, hF.put hb rfl, hW.ins hL (by decide) (by decide) (by decide) (hD 0 (by kernel_rfl)) hn hm2 hg2⟩
      have e66' : a1.tmps.getD 66 undef = .string (bs (xBy CT)) := e66
      clear hF hD hb hN hm hm2 hW e66
      simp only [execOp, Act.eval, e20, e66']
      go_simp
     ·intro hb g L a1 w1 hL hD hF hW
      have e20 : a1.tmps.getD 20 undef = .map (some g) := hF.y 0 _ 20 rfl rfl (hD 0 (by kernel_rfl))
      have hN := fun W q => hW.far hL (i := 52) (w'' := W) (by decide) (by decide) (fun _ => ⟨hD 0 (by kernel_rfl), hD 14 (by kernel_rfl), hD 28 (by kernel_rfl), hD 45 (by kernel_rfl), hD 48 (by kernel_rfl), hD 51 (by kernel_rfl)⟩) (by decide) q
      refine fit_val rfl hb rfl hF (hN _ (Keeps.refl _ _)) ?_
      show (execOp _ _).run _ _ = Result.ok (.value (.map (some g))) _
      clear hN hF hD hb
      simp only [execOp, Act.eval, e20]
      go_simp
     ·intro hb g L a1 w1 hL hD hF hW
      have e1 : a1.tmps.getD 1 undef = .pointer (some ⟨B, 0, none⟩) := hF.old 1 (by kernel_rfl)
      have hN := fun W q => hW.far hL (i := 53) (w'' := W) (by decide) (by decide) (fun h => absurd h (by decide)) (by decide) q
      refine fit_val rfl hb rfl hF (hN _ (Keeps.refl _ _)) ?_
      show (execOp _ _).run _ _ = Result.ok (.value (.pointer (some ⟨B, 1, none⟩))) _
      clear hN hF hD hb
      simp only [execOp, Act.eval, e1]
      go_simp
     ·intro hb g L a1 w1 hL hD hF hW
      have e68 : a1.tmps.getD 68 undef = .pointer (some ⟨B, 1, none⟩) := hF.y 53 _ 68 rfl rfl (hD 53 (by kernel_rfl))
      have hN := fun W q => hW.far hL (i := 54) (w'' := W) (by decide) (by decide) (fun h => absurd h (by decide)) (by decide) q
      refine fit_val rfl hb rfl hF (hN _ (Keeps.refl _ _)) ?_
      show (execOp _ _).run _ _ = Result.ok (.value (.int .i64 c)) _
      clear hN hF hD hb
      obtain ⟨z0, z1, z2, z3, z4, z5, z6, z7, z8, z9⟩ := HZB.out w1 hW.kp
      simp only [execOp, Act.eval, e68]
      go_simp
     ·intro hb g L a1 w1 hL hD hF hW
      have e67 : a1.tmps.getD 67 undef = .map (some g) := hF.y 52 _ 67 rfl rfl (hD 52 (by kernel_rfl))
      have e69 : a1.tmps.getD 69 undef = .int .i64 c := hF.y 54 _ 69 rfl rfl (hD 54 (by kernel_rfl))
      have hN := fun W q => hW.far hL (i := 55) (w'' := W) (by decide) (by decide) (fun h => absurd h (by decide)) (by decide) q
      have h52 := hD 52 (by kernel_rfl)
      obtain ⟨h0, hi⟩ := hW.fd h52
      obtain ⟨n, _, hm⟩ := hW.mp h0
      have hlk := hm.look (T := 105) Tryz.underlying105 Tryz.underlying3 (z := .string ⟨#[]⟩) (by kernel_rfl) c hwf
      rw [mapL_all left.col op CT TL TR L hi c] at hlk
      refine fit_val rfl hb rfl hF (hN _ (Keeps.refl _ _)) ?_
      show (execOp _ _).run _ _ = Result.ok (.value (.string (bs (mapR left.col op CT TL TR c)))) _
      clear hN hF hD hb
      simp only [execOp, Act.eval, e67, e69]
      go_simp
     ·intro hb g L a1 w1 hL hD hF hW
      have e70 : a1.tmps.getD 70 undef = .string (bs (mapR left.col op CT TL TR c)) := hF.y 55 _ 70 rfl rfl (hD 55 (by kernel_rfl))
      have hN := fun W q => hW.far hL (i := 56) (w'' := W) (by decide) (by decide) (fun h => absurd h (by decide)) (by decide) q
      refine fit_val rfl hb rfl hF (hN _ (Keeps.refl _ _)) ?_
      show (execOp _ _).run _ _ = Result.ok (.value (.string (bs (mapR left.col op CT TL TR c)))) _
      clear hN hF hD hb
      simp only [execOp, Act.eval, e70]
      go_simp
    ·intro g L w' _ hW
     refine hK1 _ _ (Met.intro (hJ1 _ _ ?_))
     repeat apply Exists.intro
     exact ⟨⟨rfl, Lib.hid hW.kp⟩, rfl⟩
   case rest =>
    obtain ⟨rfl, HKE⟩ := hcut
    obtain ⟨ye, rfl⟩ : ∃ z : World, z = wc := ⟨_, rfl⟩
    have HKF := Lib.hid (HKD.out.trans HKE.out)
    have HBF := Lib.hid (HBB.out.keep HKE.out (by simp))
    have f1 : ye.cell? ⟨B, 1, none⟩ = some (.int .i64 c) := HBF.out.cell 1
    have lw : (refWords.getD k []).length ≤ 10 := refW_len k hk
    have lm : (mapR left.col op CT TL TR c).length ≤ 10000000 := by
     have := mapR_len left.col op CT TL TR c
     omega
    obtain ⟨wd, hwd⟩ : ∃ t, refWords.getD k [] = t := ⟨_, rfl⟩
    obtain ⟨MR, hMR⟩ : ∃ t, mapR left.col op CT TL TR c = t := ⟨_, rfl⟩
    rw [hwd] at lw ⊢
    rw [hMR] at lm ⊢
    have HWD := Lib.hid hwd
    have HMR := Lib.hid hMR
    have HH46 := Lib.hid h46
    have HH67 := Lib.hid h67
    clear hwd hMR hwf HAL HAR h46 h67
    by_cases k4 : k = 4
    ·obtain ⟨a1, ha1, la1⟩ := HH46.out (.inl k4)
     obtain ⟨q1, l1⟩ := HI1.out a1 ha1
     have HT : Hid (restT k ins cols op MR = [44, 32] ++ a1) := Lib.hid (by
      unfold restT
      rw [if_pos k4, List.getD_eq_getElem?_getD, ha1]
      rfl)
     have t5 : (c == 5) = true := by rw [HC.out, k4]; rfl
     have f3 : ye.cell? ⟨B, 3, none⟩ = some (.slice (some ⟨g3, 0, none⟩) ins.length c3) := HBF.out.cell 3
     have p1 := HKF.out.cell_of q1 (by simp)
     clear k4 q1 ha1
     go_wp2
     go_ret
     refine ⟨congrArg (fun l => Ending.returned (.string (bs l))) (?_ : _ = _), HKF.out⟩
     rw [HMR.out, HT.out, ← List.getD_eq_getElem?_getD, HWD.out]
     simp
    by_cases k6 : k = 6
    ·obtain ⟨a1, ha1, la1⟩ := HH46.out (.inr k6)
     obtain ⟨d0, d1, hd0, hd1, ld0, ld1⟩ := HH67.out (.inl k6)
     obtain ⟨q1, l1⟩ := HI1.out a1 ha1
     obtain ⟨g4, rfl, r0, r1, l2, l3⟩ := HJ1.out d0 d1 hd0 hd1
     have HT : Hid (restT k ins cols op MR = ((((([46] ++ d0) ++ [44, 32]) ++ a1) ++ [46]) ++ d1)) := Lib.hid (by
      unfold restT
      rw [if_neg k4, if_pos k6, List.getD_eq_getElem?_getD, List.getD_eq_getElem?_getD, List.getD_eq_getElem?_getD, ha1, hd0, hd1]
      rfl)
     have t5 : (c == 5) = false := by rw [HC.out, k6]; rfl
     have t7 : (c == 7) = true := by rw [HC.out, k6]; rfl
     have f3 : ye.cell? ⟨B, 3, none⟩ = some (.slice (some ⟨g3, 0, none⟩) ins.length c3) := HBF.out.cell 3
     have f4 : ye.cell? ⟨B, 4, none⟩ = some (.slice (some ⟨g4, 0, none⟩) cols.length c4) := HBF.out.cell 4
     have p1 := HKF.out.cell_of q1 (by simp)
     have s0 := HKF.out.cell_of r0 (by simp)
     have s1 := HKF.out.cell_of r1 (by simp)
     have lB := HBF.out.lt
     have lg3' : g3 < ye.heap.size := World.block_lt_of_cell? _ _ p1
     have lg4' : g4 < ye.heap.size := World.block_lt_of_cell? _ _ s0
     clear k4 k6 q1 ha1 hd0 hd1 r0 r1
     go_upto_region 8 with (fail)
     refine wp_region_keeps (by kernel_rfl) (by kernel_rfl) ?_
     repeat (go_big_quiet_step (fail))
     refine wpQuiet_nil ?_
     intro wx kx
     go_wp2
     go_ret
     refine ⟨congrArg (fun l => Ending.returned (.string (bs l))) (?_ : _ = _), HKF.out.trans kx⟩
     rw [HMR.out, HT.out, ← List.getD_eq_getElem?_getD, HWD.out]
     simp
    by_cases k7 : k = 7
    ·obtain ⟨d0, d1, hd0, hd1, ld0, ld1⟩ := HH67.out (.inr k7)
     obtain ⟨g4, rfl, r0, r1, l2, l3⟩ := HJ1.out d0 d1 hd0 hd1
     have HT : Hid (restT k ins cols op MR = (((([32, 98, 121, 32] ++ d0) ++ [32]) ++ op) ++ [32]) ++ d1) := Lib.hid (by
      unfold restT
      rw [if_neg k4, if_neg k6, if_pos k7, List.getD_eq_getElem?_getD, List.getD_eq_getElem?_getD, hd0, hd1]
      rfl)
     have t5 : (c == 5) = false := by rw [HC.out, k7]; rfl
     have t7 : (c == 7) = false := by rw [HC.out, k7]; rfl
     have t8 : (c == 8) = true := by rw [HC.out, k7]; rfl
     have f4 : ye.cell? ⟨B, 4, none⟩ = some (.slice (some ⟨g4, 0, none⟩) cols.length c4) := HBF.out.cell 4
     have f5 : ye.cell? ⟨B, 5, none⟩ = some (.string (bs op)) := HBF.out.cell 5
     have s0 := HKF.out.cell_of r0 (by simp)
     have s1 := HKF.out.cell_of r1 (by simp)
     have lB := HBF.out.lt
     have lg4' : g4 < ye.heap.size := World.block_lt_of_cell? _ _ s0
     clear k4 k6 k7 hd0 hd1 r0 r1
     go_upto_region 10 with (fail)
     refine wp_region_keeps (by kernel_rfl) (by kernel_rfl) ?_
     repeat (go_big_quiet_step (fail))
     refine wpQuiet_nil ?_
     intro wx kx
     go_wp2
     go_ret
     refine ⟨congrArg (fun l => Ending.returned (.string (bs l))) (?_ : _ = _), HKF.out.trans kx⟩
     rw [HMR.out, HT.out, ← List.getD_eq_getElem?_getD, HWD.out]
     simp
    ·have HT : Hid (restT k ins cols op MR = MR) := Lib.hid (by
      unfold restT
      rw [if_neg k4, if_neg k6, if_neg k7])
     have t5 : (c == 5) = false := by rw [HC.out, beq_eq_false_iff_ne]; omega
     have t7 : (c == 7) = false := by rw [HC.out, beq_eq_false_iff_ne]; omega
     have t8 : (c == 8) = false := by rw [HC.out, beq_eq_false_iff_ne]; omega
     clear k4 k6 k7
     go_wp2
     go_ret
     refine ⟨congrArg (fun l => Ending.returned (.string (bs l))) (?_ : _ = _), HKF.out⟩
     rw [HMR.out, HT.out, ← List.getD_eq_getElem?_getD, HWD.out]
end Go.Proofs.YtnjjajanfedjiaaGreatDoor
