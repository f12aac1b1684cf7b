/- ops.Do: words for what it takes, and hands back. ops.made: Distinct, Union. Two values compared. -/
import Derived.Test.YtpfkjejknlkkoaaGreatDoorOsoM13
import Derived.Test.YtpfkjejknlkkoaaGreatDoorOsoM15
import Derived.Test.YtpfkjejknlkkoaaGreatDoorOsoM3
set_option linter.unusedSimpArgs false
set_option linter.unusedVariables false
namespace Go.Proofs.YtpfkjejknlkkoaaGreatDoor
open Go.RowKit Go.BigFrame
def flat2 (us : List (Value × Value)) : List Value := us.flatMap fun p => [p.1, p.2]
theorem flat2_length (us : List (Value × Value)) : (flat2 us).length = us.length * 2 := by
 induction us with
 | nil => rfl
 | cons p l ih =>
  unfold flat2 at ih ⊢
  simp only [List.flatMap_cons, List.length_append, List.length_cons, List.length_nil, ih]
  omega
theorem flat2_at (l : List (Value × Value)) (k : Nat) (h : k < l.length) : (flat2 l)[k * 2]? = some l[k].1 ∧ (flat2 l)[k * 2 + 1]? = some l[k].2 := by
 induction l generalizing k with
 | nil => simp at h
 | cons p l ih =>
  rcases k with _ | k
  ·simp [flat2]
  ·have := ih k (by simpa using h)
   simpa [flat2, Nat.succ_mul] using this
theorem flat2_snoc (us : List (Value × Value)) (p : Value × Value) : flat2 (us ++ [p]) = flat2 us ++ [p.1, p.2] := by simp [flat2]
def TbIs (w : World) (u : Value × Value) (t : Tb) : Prop := HeadIs w u.1 t.cols ∧ RowsIs w u.2 t.rows
def RdTbs (w : World) (A : Option Addr) (ts : List Tb) : Prop :=
 ∃ us : List (Value × Value), us.length = ts.length ∧ Rd w [] 2 A ts.length (flat2 us) ∧ ∀ i (h : i < us.length) (h' : i < ts.length), TbIs w us[i] ts[i]
structure TbB (t : Tb) : Prop where
 names : ∀ x ∈ t.cols, x.name.length ≤ 1000000000
 ln : t.cols.length ≤ 4294967296
 lm : t.rows.length ≤ 4294967296
 lr : ∀ r ∈ t.rows, r.length ≤ 4294967296
theorem TbIs.keep {w w' : World} {u : Value × Value} {t : Tb} (h : TbIs w u t) (hk : Keeps [] w w') : TbIs w' u t := ⟨h.1.keep hk, h.2.keep hk⟩
theorem RdTbs.keep {w w' : World} {A : Option Addr} {ts : List Tb} (h : RdTbs w A ts) (hk : Keeps [] w w') : RdTbs w' A ts := by
 obtain ⟨us, h1, h2, h3⟩ := h
 exact ⟨us, h1, h2.keep hk, fun i a b => (h3 i a b).keep hk⟩
def DoOut (R : Except Int (List Tb)) (e : Ending) (w' : World) : Prop := match R with
 | .error x => e = .returned (.tuple #[.slice none 0 0, .iface 71 (.int .i64 x)])
 | .ok l => ∃ B d, e = .returned (.tuple #[.slice B l.length d, .nilIface]) ∧ l.length ≤ d ∧ RdTbs w' B l
theorem tabs_bad {out : List (List Cl)} {rows : List (List (List Vl))} {i : Nat} (h1 : i < out.length) (h2 : i < rows.length) (h : 60 < rows[i].length) : tabsJ out rows = .error 12 := by
 induction rows generalizing out i with
 | nil => simp at h2
 | cons r rs ih =>
  cases out with
  | nil => simp at h1
  | cons c cs =>
   unfold tabsJ
   split
   ·rfl
   ·rename_i hr
    rcases i with _ | i
    ·exact absurd h hr
    ·rw [ih (out := cs) (i := i) (by simpa using h1) (by simpa using h2) (by simpa using h)]
theorem tabs_good {out : List (List Cl)} {rows : List (List (List Vl))} (h : out.length = rows.length) (hr : ∀ i (h : i < rows.length), rows[i].length ≤ 60) : tabsJ out rows = .ok (List.zipWith Tb.mk out rows) := by
 induction rows generalizing out with
 | nil =>
  have : out = [] := List.eq_nil_of_length_eq_zero (by simpa using h)
  rw [this]; rfl
 | cons r rs ih =>
  cases out with
  | nil => simp at h
  | cons c cs =>
   unfold tabsJ
   rw [if_neg (by have := hr 0 (by simp); simp at this; omega), ih (by simpa using h) (fun i hi => by have := hr (i + 1) (by simpa using hi); simpa using this)]
   rfl
theorem cols_len {j : Jb} {ins : List (List Cl)} {out : List (List Cl)} (h : colsJ j ins = .ok out) : out.length = if j.code = 9 then 2 else 1 := by
 unfold colsJ at h
 split at h
 ·cases h
 ·split at h
  ·unfold comparedJ at h
   split at h
   ·cases h
   ·split at h
    ·cases h
    ·split at h
     ·cases h
     ·injection h with h
      rw [← h, List.length_replicate]
  ·rename_i h19
   rw [if_neg (fun e => h19 (.inr e))]
   have key : ∀ {c : List Cl}, out = [c] → out.length = 1 := fun e => by rw [e]; rfl
   split at h
   ·unfold setJ at h
    split at h
    ·cases h
    ·split at h
     ·cases h
     ·split at h
      ·cases h
      ·injection h with h; exact key h.symm
   ·split at h
    ·unfold pickedJ at h
     split at h
     ·cases h
     ·split at h
      ·cases h
      ·injection h with h; exact key h.symm
    ·split at h
     ·split at h
      ·cases h
      ·injection h with h; exact key h.symm
     ·split at h
      ·unfold joinedJ at h
       split at h
       ·cases h
       ·split at h
        ·split at h
         ·cases h
         ·split at h
          ·cases h
          ·split at h
           ·cases h
           ·injection h with h; exact key h.symm
        ·cases h
      ·split at h
       ·unfold groupedJ at h
        split at h
        ·cases h
        ·split at h
         ·split at h
          ·cases h
          ·split at h
           ·cases h
           ·injection h with h; exact key h.symm
         ·cases h
       ·injection h with h; exact key h.symm
theorem made_len {j : Jb} {ins : List Tb} {out : List (List Cl)} {rows : List (List (List Vl))} (ho : out.length = if j.code = 9 then 2 else 1) (h : madeJ j ins out = .ok rows) : out.length = rows.length := by
 have key0 : ∀ {c : List (List Vl)}, j.code ≠ 9 → rows = [c] → out.length = rows.length := fun hn e => by rw [ho, if_neg hn, e]; rfl
 unfold madeJ at h
 simp only at h
 by_cases h4 : j.code = 4
 ·rw [if_pos h4] at h; injection h with h; exact key0 (by omega) h.symm
 rw [if_neg h4] at h
 by_cases h7 : j.code = 7
 ·rw [if_pos h7] at h; injection h with h; exact key0 (by omega) h.symm
 rw [if_neg h7] at h
 by_cases h8 : j.code = 8
 ·rw [if_pos h8] at h
  split at h
  ·cases h
  ·injection h with h; exact key0 (by omega) h.symm
 rw [if_neg h8] at h
 unfold madeO at h
 simp only at h
 split at h
 ·injection h with h
  rw [← h, List.length_take]
  show out.length = min out.length 2
  rw [ho]
  split <;> rfl
 ·rename_i h19
  rw [ho, if_neg (fun e => h19 (.inr e))]
  have key : ∀ {c : List (List Vl)}, rows = [c] → 1 = rows.length := fun e => by rw [e]; rfl
  split at h
  ·split at h
   ·cases h
   ·injection h with h; exact key h.symm
  ·split at h
   ·injection h with h; exact key h.symm
   ·split at h
    ·injection h with h; exact key h.symm
    ·injection h with h; exact key h.symm
def HGath (w W : World) (base : Nat) (v : Value) (ls : List (List Cl)) : Prop :=
 ∃ us : List Value, us.length = ls.length ∧ W.ownsRow base 22 1 v ls.length us ∧ ∀ i (h : i < us.length) (h' : i < ls.length), HeadIs w us[i] ls[i]
theorem HGath.nil (w W : World) (base : Nat) : HGath w W base (.slice none 0 0) [] := ⟨[], rfl, World.ownsRow_nil _ _ _ _, fun i h => by simp at h⟩
theorem HGath.is {w W : World} {base : Nat} {v : Value} {ls : List (List Cl)} (h : HGath w W base v ls) (hk : Keeps [] w W) : ∃ A c, v = .slice A ls.length c ∧ ls.length ≤ c ∧ RdHeads W A ls := by
 obtain ⟨us, h1, h2, h3⟩ := h
 obtain ⟨A, c, e, hc, hr⟩ := own_rd h2
 exact ⟨A, c, e, hc, us, h1, hr, fun i a b => (h3 i a b).keep hk⟩
theorem hgath_snoc {w W' : World} {base gw cap : Nat} {us : List Value} {ls : List (List Cl)} {l : List Cl} {u : Value} (h1 : us.length = ls.length) (h3 : ∀ i (h : i < us.length) (h' : i < ls.length), HeadIs w us[i] ls[i]) (hu : HeadIs w u l)
  (hown : W'.ownsRow base 22 1 (.slice (some ⟨gw, 0, none⟩) (ls.length + 1) cap) (ls.length + 1) (us ++ [u])) : HGath w W' base (.slice (some ⟨gw, 0, none⟩) (ls.length + 1) cap) (ls ++ [l]) := by
 refine ⟨us ++ [u], by simp [h1], by simpa using hown, fun i a b => ?_⟩
 by_cases hi : i < us.length
 ·rw [List.getElem_append_left hi, List.getElem_append_left (by omega)]
  exact h3 i hi (by omega)
 ·have hi' : i = us.length := by simp at a; omega
  subst hi'
  rw [List.getElem_append_right (Nat.le_refl _), List.getElem_append_right (by omega)]
  simpa [h1] using hu
def TGath (w W : World) (base : Nat) (v : Value) (ts : List Tb) : Prop :=
 ∃ us : List (Value × Value), us.length = ts.length ∧ W.ownsRow base 25 2 v ts.length (flat2 us) ∧ ∀ i (h : i < us.length) (h' : i < ts.length), TbIs w us[i] ts[i]
theorem TGath.nil (w W : World) (base : Nat) : TGath w W base (.slice none 0 0) [] := ⟨[], rfl, World.ownsRow_nil _ _ _ _, fun i h => by simp at h⟩
theorem TGath.is {w W : World} {base : Nat} {v : Value} {ts : List Tb} (h : TGath w W base v ts) (hk : Keeps [] w W) : ∃ A c, v = .slice A ts.length c ∧ ts.length ≤ c ∧ RdTbs W A ts := by
 obtain ⟨us, h1, h2, h3⟩ := h
 obtain ⟨A, c, e, hc, hr⟩ := own_rd h2
 exact ⟨A, c, e, hc, us, h1, hr, fun i a b => (h3 i a b).keep hk⟩
theorem tgath_snoc {w W' : World} {base gw cap : Nat} {us : List (Value × Value)} {ts : List Tb} {t : Tb} {u x : Value} (h1 : us.length = ts.length) (h3 : ∀ i (h : i < us.length) (h' : i < ts.length), TbIs w us[i] ts[i]) (hu : HeadIs w u t.cols) (hx : RowsIs w x t.rows)
  (hown : W'.ownsRow base 25 2 (.slice (some ⟨gw, 0, none⟩) (ts.length + 1) cap) (ts.length + 1) (flat2 us ++ [u, x])) : TGath w W' base (.slice (some ⟨gw, 0, none⟩) (ts.length + 1) cap) (ts ++ [t]) := by
 refine ⟨us ++ [(u, x)], by simp [h1], by rw [flat2_snoc]; simpa using hown, fun i a b => ?_⟩
 by_cases hi : i < us.length
 ·rw [List.getElem_append_left hi, List.getElem_append_left (by omega)]
  exact h3 i hi (by omega)
 ·have hi' : i = us.length := by simp at a; omega
  subst hi'
  rw [List.getElem_append_right (Nat.le_refl _), List.getElem_append_right (by omega)]
  have : ts.length = us.length := h1.symm
  simp only [Nat.sub_self, this, List.getElem_cons_zero]
  exact ⟨hu, hx⟩
theorem box15 {W : World} {b : Nat} {t : TypeId} {v0 v1 v2 v3 v4 v5 v6 v7 v8 v9 v10 v11 v12 v13 v14 : Value} (h : Blk W b t #[v0, v1, v2, v3, v4, v5, v6, v7, v8, v9, v10, v11, v12, v13, v14]) :
  W.cell? ⟨b, 0, none⟩ = some v0 ∧ W.cell? ⟨b, 1, none⟩ = some v1 ∧ W.cell? ⟨b, 2, none⟩ = some v2 ∧ W.cell? ⟨b, 3, none⟩ = some v3 ∧ W.cell? ⟨b, 4, none⟩ = some v4 ∧ W.cell? ⟨b, 5, none⟩ = some v5 ∧ W.cell? ⟨b, 6, none⟩ = some v6 ∧ W.cell? ⟨b, 7, none⟩ = some v7 ∧ W.cell? ⟨b, 8, none⟩ = some v8 ∧ W.cell? ⟨b, 9, none⟩ = some v9 ∧ W.cell? ⟨b, 10, none⟩ = some v10 ∧ W.cell? ⟨b, 11, none⟩ = some v11 ∧ W.cell? ⟨b, 12, none⟩ = some v12 ∧ W.cell? ⟨b, 13, none⟩ = some v13 ∧ W.cell? ⟨b, 14, none⟩ = some v14 :=
 ⟨h.cell 0, h.cell 1, h.cell 2, h.cell 3, h.cell 4, h.cell 5, h.cell 6, h.cell 7, h.cell 8, h.cell 9, h.cell 10, h.cell 11, h.cell 12, h.cell 13, h.cell 14⟩
end Go.Proofs.YtpfkjejknlkkoaaGreatDoor
namespace Go.Proofs.YtpfkjejknlkkoaaGreatDoor
open Go.RowKit Go.BigFrame
attribute [local go_sem] bs_size bs_extract bs_append bs_toList
attribute [local go_sem] KW.cell
theorem rv_of_row {cs : List Cl} {r : List Vl} (h : rowB cs r = true) : ∀ v ∈ r, rvB v = true := fun v hv => by
 unfold rowB at h
 simp only [Bool.and_eq_true, decide_eq_true_eq, List.all_eq_true] at h
 obtain ⟨k, hk, rfl⟩ := List.getElem_of_mem hv
 have h2 := h.2 k (List.mem_range.2 hk)
 unfold okAt at h2
 rw [List.getElem?_eq_getElem hk, List.getElem?_eq_getElem (by omega)] at h2
 simp only [Bool.and_eq_true] at h2
 exact h2.2
theorem joinC_len (c : UInt8) (M : Nat) : ∀ l : List Bs, (∀ x ∈ l, x.length ≤ M) → (joinC c l).length ≤ (M + 1) * l.length
 | [], _ => by simp [joinC]
 | [x], h => by have := h x (by simp); simp [joinC]; omega
 | x :: y :: l, h => by
  have ih := joinC_len c M (y :: l) (fun z hz => h z (by simp [hz]))
  have hx := h x (by simp)
  show (x ++ c :: joinC c (y :: l)).length ≤ _
  simp only [List.length_append, List.length_cons] at ih ⊢
  rw [Nat.mul_succ]
  omega
theorem row_small {t : Tb} (h : rightB t = true) : ∀ r ∈ t.rows, 1 ≤ r.length ∧ r.length ≤ 4294967296 ∧ (∀ v ∈ r, numOk v.num ∧ v.word.length ≤ 1000000000) ∧ (rowText r).length ≤ 1000000000 := fun r hr => by
 obtain ⟨h1, h2, h3⟩ := rightB_parts.1 h
 have hrow := h3 r hr
 have hrv := rv_of_row hrow
 have hl : r.length = t.cols.length := by
  unfold rowB at hrow
  simp only [Bool.and_eq_true, decide_eq_true_eq] at hrow
  exact hrow.1
 have hc : 1 ≤ t.cols.length ∧ t.cols.length ≤ 6 := by
  unfold colsB at h1
  simp only [Bool.and_eq_true, decide_eq_true_eq] at h1
  exact h1.1
 refine ⟨by omega, by omega, fun v hv => ⟨(rv_len (hrv v hv)).2.1, by have := (rv_len (hrv v hv)).2.2; omega⟩, ?_⟩
 have := joinC_len 32 21 (r.map valueL) (fun x hx => by
  obtain ⟨v, hv, rfl⟩ := List.mem_map.1 hx
  exact (rv_len (hrv v hv)).1)
 rw [List.length_map] at this
 unfold rowText
 have : (21 + 1) * r.length ≤ 22 * 6 := Nat.mul_le_mul_left 22 (by omega)
 omega
set_option maxHeartbeats 4000000 in
set_option maxRecDepth 40000 in
theorem made_6 (t : Tb) (hr : rightB t = true) (OA : Option Addr) (no od : Nat) (b o : Nat) (nt ct : Nat) (A B : Option Addr) (c d : Nat) (hnt : 1 ≤ nt) (at_ retry lk ln rk rn : Int) (outs cols : List Bs) (op lc lw rc rw' : Bs) (Ao : Option Addr) (co : Nat) (Ai : Option Addr) (ni ci : Nat) (Ac : Option Addr) (cc : Nat) (w : World)
  (hd0 : w.cell? ⟨b, o, none⟩ = some (.slice A t.cols.length c)) (hd1 : w.cell? ⟨b, o + 1, none⟩ = some (.slice B t.rows.length d)) (hT : TabIn w t A B c d) (hE : TEnv w) :
  Calls Tryz.prog 45 #[.agg #[.int .i64 at_, .int .i64 6, .slice Ao outs.length co, .slice Ai ni ci, .slice Ac cols.length cc, .string (bs op), .string (bs lc), .int .i64 lk, .int .i64 ln, .string (bs lw), .string (bs rc), .int .i64 rk, .int .i64 rn, .string (bs rw'), .int .i64 retry], .slice (some ⟨b, o, none⟩) nt ct, .slice OA no od] w fun e w' => MadeOut (.ok [distinctGo t.rows [] []]) e w' ∧ Keeps [] w w' := by
 have hi1 : (0 : Int) < (nt : Int) := by omega
 have HT := Lib.hid hT
 have hz0 : b < w.heap.size := World.block_lt_of_cell? _ _ hd0
 have HK0 : Hid (Keeps [] w ((w.alloc (.cells #[.int .i64 at_, .int .i64 6, .slice Ao outs.length co, .slice Ai ni ci, .slice Ac cols.length cc, .string (bs op), .string (bs lc), .int .i64 lk, .int .i64 ln, .string (bs lw), .string (bs rc), .int .i64 rk, .int .i64 rn, .string (bs rw'), .int .i64 retry] 36)).alloc (.cells #[.slice A t.cols.length c, .slice B t.rows.length d] 25))) := Lib.hid (((Keeps.refl _ _).alloc _).alloc _)
 have HBX := Lib.hid (Blk.alloc (Blk.new w 36 #[.int .i64 at_, .int .i64 6, .slice Ao outs.length co, .slice Ai ni ci, .slice Ac cols.length cc, .string (bs op), .string (bs lc), .int .i64 lk, .int .i64 ln, .string (bs lw), .string (bs rc), .int .i64 rk, .int .i64 rn, .string (bs rw'), .int .i64 retry]) (.cells #[.slice A t.cols.length c, .slice B t.rows.length d] 25))
 have HBT := Lib.hid (Blk.new (w.alloc (.cells #[.int .i64 at_, .int .i64 6, .slice Ao outs.length co, .slice Ai ni ci, .slice Ac cols.length cc, .string (bs op), .string (bs lc), .int .i64 lk, .int .i64 ln, .string (bs lw), .string (bs rc), .int .i64 rk, .int .i64 rn, .string (bs rw'), .int .i64 retry] 36)) 25 #[.slice A t.cols.length c, .slice B t.rows.length d])
 rw [size_alloc] at HBT
 have HDI := Lib.hid (fun W (q : Keeps [] w W) => distinct_any t.rows B d W (hE.quiet q) (hT.rows.keep q) hT.lm (row_small hr))
 generalize distinctGo t.rows [] [] = DG at *
 clear hT
 go_enter Tryz.func45, Tryz.ntmps45
 go_wp2_with fail
 refine (HDI.out _ HK0.out).mono ?_
 rintro e w5 ⟨⟨v, rfl, hv⟩, hk5⟩
 have HV := Lib.hid hv
 have HK5 := Lib.hid (HK0.out.trans hk5)
 obtain ⟨A3, c3, hv3, _, _⟩ := HV.out
 subst hv3
 clear hv hk5 HBX HBT
 go_wp2
 go_ret2
 exact ⟨⟨_, 1, rfl, Nat.le_refl _, tabs_one HV.out _⟩, HK5.out.alloc _⟩
set_option maxHeartbeats 4000000 in
set_option maxRecDepth 40000 in
theorem made_5 (t u : Tb) (OA : Option Addr) (no od : Nat) (b o : Nat) (nt ct : Nat) (A B : Option Addr) (c d : Nat) (hnt : 2 ≤ nt) (at_ retry lk ln rk rn : Int) (outs cols : List Bs) (op lc lw rc rw' : Bs) (Ao : Option Addr) (co : Nat) (Ai : Option Addr) (ni ci : Nat) (Ac : Option Addr) (cc : Nat) (w : World)
  (hd0 : w.cell? ⟨b, o, none⟩ = some (.slice A t.cols.length c)) (hd1 : w.cell? ⟨b, o + 1, none⟩ = some (.slice B t.rows.length d)) (hT : TabIn w t A B c d) (A2 B2 : Option Addr) (c2 d2 : Nat)
  (hd3 : w.cell? ⟨b, o + 1 * 2 + 1, none⟩ = some (.slice B2 u.rows.length d2)) (hU : TabIn w u A2 B2 c2 d2) (hl1 : t.rows.length ≤ 100) (hl2 : u.rows.length ≤ 100) :
  Calls Tryz.prog 45 #[.agg #[.int .i64 at_, .int .i64 5, .slice Ao outs.length co, .slice Ai ni ci, .slice Ac cols.length cc, .string (bs op), .string (bs lc), .int .i64 lk, .int .i64 ln, .string (bs lw), .string (bs rc), .int .i64 rk, .int .i64 rn, .string (bs rw'), .int .i64 retry], .slice (some ⟨b, o, none⟩) nt ct, .slice OA no od] w fun e w' => MadeOut (.ok [t.rows ++ u.rows]) e w' ∧ Keeps [] w w' := by
 have hi1 : (0 : Int) < (nt : Int) := by omega
 have HT := Lib.hid hT
 have hz0 : b < w.heap.size := World.block_lt_of_cell? _ _ hd0
 have HK0 : Hid (Keeps [] w ((w.alloc (.cells #[.int .i64 at_, .int .i64 5, .slice Ao outs.length co, .slice Ai ni ci, .slice Ac cols.length cc, .string (bs op), .string (bs lc), .int .i64 lk, .int .i64 ln, .string (bs lw), .string (bs rc), .int .i64 rk, .int .i64 rn, .string (bs rw'), .int .i64 retry] 36)).alloc (.cells #[.slice A t.cols.length c, .slice B t.rows.length d] 25))) := Lib.hid (((Keeps.refl _ _).alloc _).alloc _)
 have HBX := Lib.hid (Blk.alloc (Blk.new w 36 #[.int .i64 at_, .int .i64 5, .slice Ao outs.length co, .slice Ai ni ci, .slice Ac cols.length cc, .string (bs op), .string (bs lc), .int .i64 lk, .int .i64 ln, .string (bs lw), .string (bs rc), .int .i64 rk, .int .i64 rn, .string (bs rw'), .int .i64 retry]) (.cells #[.slice A t.cols.length c, .slice B t.rows.length d] 25))
 have HBT := Lib.hid (Blk.new (w.alloc (.cells #[.int .i64 at_, .int .i64 5, .slice Ao outs.length co, .slice Ai ni ci, .slice Ac cols.length cc, .string (bs op), .string (bs lc), .int .i64 lk, .int .i64 ln, .string (bs lw), .string (bs rc), .int .i64 rk, .int .i64 rn, .string (bs rw'), .int .i64 retry] 36)) 25 #[.slice A t.cols.length c, .slice B t.rows.length d])
 rw [size_alloc] at HBT
 have hi2 : (1 : Int) < (nt : Int) := by omega
 obtain ⟨us, hul, hur, hui⟩ := hT.rows
 obtain ⟨vs, hvl, hvr, hvi⟩ := hU.rows
 have HCC : Hid (∀ W g, Keeps [] w W → Blk W g 23 #[.slice B t.rows.length d, .slice B2 u.rows.length d2] → Calls Tryz.prog 68 #[.slice (some ⟨g, 0, none⟩) 2 2] W fun e w' => (∃ v, e = .returned v ∧ RowsIs w' v (t.rows ++ u.rows)) ∧ Keeps [] W w') := Lib.hid (fun W g q hb => by
  have h := concatR_any [(t.rows.length, us), (u.rows.length, vs)] [.slice B t.rows.length d, .slice B2 u.rows.length d2] (some ⟨g, 0, none⟩) 2 W rfl ⟨rfl, fun _ => ⟨_, rfl, by simp, hb.lt, fun j x hx => by rw [add_at, Nat.zero_add, hb.cell j]; simpa using hx⟩⟩ (fun i h1 h2 => by
   match i, h1 with
   | 0, _ => exact ⟨B, d, rfl, hur.keep q⟩
   | 1, _ => exact ⟨B2, d2, rfl, hvr.keep q⟩) (by simp) (by simp [totN]; omega) (fun p hp x hx => by
   simp only [List.mem_cons, List.not_mem_nil, or_false] at hp
   rcases hp with rfl | rfl
   ·obtain ⟨i, hi, rfl⟩ := List.getElem_of_mem hx
    obtain ⟨_, _, e, _⟩ := hui i hi (by simp only at hi; omega)
    simp only at e ⊢
    rw [e]; rfl
   ·obtain ⟨i, hi, rfl⟩ := List.getElem_of_mem hx
    obtain ⟨_, _, e, _⟩ := hvi i hi (by simp only at hi; omega)
    simp only at e ⊢
    rw [e]; rfl)
  refine h.mono ?_
  rintro e w' ⟨⟨v, rfl, hown⟩, hk⟩
  refine ⟨⟨v, rfl, ?_⟩, hk⟩
  have e1 : totN [(t.rows.length, us), (u.rows.length, vs)] 2 = (t.rows ++ u.rows).length := by simp [totN]
  have e2 : catV [(t.rows.length, us), (u.rows.length, vs)] 2 = us ++ vs := by simp [catV]
  have hown2 : w'.ownsRow W.heap.size 41 1 v (t.rows ++ u.rows).length (us ++ vs) := by rw [← e1, ← e2]; exact hown
  obtain ⟨A3, c3, e3, hc3, hr3⟩ := own_rd hown2
  refine ⟨A3, c3, e3, hc3, us ++ vs, by simp [hul, hvl], hr3, fun i h1 h2 => ?_⟩
  by_cases hi : i < us.length
  ·rw [List.getElem_append_left hi, List.getElem_append_left (by omega)]
   exact (hui i hi (by omega)).keep (q.trans hk)
  ·rw [List.getElem_append_right (by omega), List.getElem_append_right (by omega)]
   have := hvi (i - us.length) (by simp at h1; omega) (by simp at h1; omega)
   simp only [hul] at this ⊢
   exact this.keep (q.trans hk))
 generalize t.rows ++ u.rows = DG at *
 clear hT hU hul hur hui hvl hvr hvi
 go_enter Tryz.func45, Tryz.ntmps45
 go_wp2
 obtain ⟨w2, hw2⟩ : ∃ w2, ((w.alloc (.cells #[.int .i64 at_, .int .i64 5, .slice Ao outs.length co, .slice Ai ni ci, .slice Ac cols.length cc, .string (bs op), .string (bs lc), .int .i64 lk, .int .i64 ln, .string (bs lw), .string (bs rc), .int .i64 rk, .int .i64 rn, .string (bs rw'), .int .i64 retry] 36)).alloc (.cells #[.slice A t.cols.length c, .slice B t.rows.length d] 25)) = w2 := ⟨_, rfl⟩
 rw [hw2] at HK0 HBX HBT ⊢
 obtain ⟨bx, hbx⟩ : ∃ bx, w.heap.size = bx := ⟨_, rfl⟩
 rw [hbx] at HBX HBT ⊢
 have e3 : w2.cell? ⟨b, o + 1 * 2 + 1, none⟩ = some (.slice B2 u.rows.length d2) := HK0.out.cell_of hd3 (by simp)
 have e4 : w2.cell? ⟨bx + 1, 1, none⟩ = some (.slice B t.rows.length d) := HBT.out.cell 1
 have hz2 : b < w2.heap.size := World.block_lt_of_cell? _ _ e3
 have hz3 : bx + 1 < w2.heap.size := HBT.out.lt
 clear hw2 hbx hd0 hd1 hd3
 go_region_held3 (fun w' => w'.cell? ⟨b, o + 1 * 2 + 1, none⟩ = some (.slice B2 u.rows.length d2) ∧ w'.cell? ⟨bx + 1, 1, none⟩ = some (.slice B t.rows.length d)) (first | exact ⟨(((Keeps.refl [] w2).drew.alloc _).trans k5).cell_of e3 (by simp), (((Keeps.refl [] w2).drew.alloc _).trans k5).cell_of e4 (by simp)⟩ | exact ⟨e3, e4⟩ | go_keep) (first | (go_at_call 68; refine (HCC.out _ _ (HK0.out.trans ((Keeps.refl [] w2).drew.alloc _)) (Blk.new _ _ _)).mono ?_; rintro e w5 ⟨⟨v, rfl, hv⟩, k5⟩; obtain ⟨A3, c3, hv3, hvl3, hvr3⟩ := hv; subst hv3))
 go_wp2
 go_ret2
 exact ⟨⟨_, 1, rfl, Nat.le_refl _, tabs_one ⟨A3, c3, rfl, hvl3, hvr3⟩ _⟩, (HK0.out.trans (((Keeps.refl [] w2).drew.alloc _).trans k5)).alloc _⟩
end Go.Proofs.YtpfkjejknlkkoaaGreatDoor
namespace Go.Proofs.YtpfkjejknlkkoaaGreatDoor
open Go.RowKit Go.BigFrame
attribute [local go_sem] bs_size bs_extract bs_append bs_toList
theorem vEql (k n : Int) (s : Bs) (k2 n2 : Int) (s2 : Bs) (W : World) : (binOp .eql 32 (.agg #[.int .i64 k, .int .i64 n, .string (bs s)]) (.agg #[.int .i64 k2, .int .i64 n2, .string (bs s2)])).run Tryz.prog W = .ok (.bool (decide ((⟨k, n, s⟩ : Vl) = ⟨k2, n2, s2⟩))) W := by
 have hd : decide ((⟨k, n, s⟩ : Vl) = ⟨k2, n2, s2⟩) = (decide (k = k2) && decide (n = n2) && decide (s = s2)) := by
  rw [Bool.eq_iff_iff]
  simp [and_assoc]
 rw [hd]
 simp [go_sem]
 by_cases h1 : k = k2 <;> by_cases h2 : n = n2 <;> by_cases h3 : s = s2 <;> simp [h1, h2, h3, go_sem]
end Go.Proofs.YtpfkjejknlkkoaaGreatDoor
