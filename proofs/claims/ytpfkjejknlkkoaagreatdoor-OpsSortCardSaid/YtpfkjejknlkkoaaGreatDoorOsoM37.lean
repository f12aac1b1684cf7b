/- foremankeep.short. Tables do not lie where a job's code, or its mark, lies. OpsSort: the walk. -/
import Derived.Test.YtpfkjejknlkkoaaGreatDoorOsoM36
import Derived.Test.YtpfkjejknlkkoaaGreatDoorOsoM27
import Derived.Test.YtpfkjejknlkkoaaGreatDoorOsoM35
import Derived.Deep.CutRange
set_option linter.unusedSimpArgs false
set_option linter.unusedVariables false
namespace Go.Proofs.YtpfkjejknlkkoaaGreatDoor
open Go.RowKit
attribute [local go_sem] bs_size bs_extract bs_append bs_toList
def shortB (j : Jb) : Bool := decide (j.cols.length ≤ 10) && (decide (j.op.length ≤ 20) && (decide (j.left.col.length ≤ 40) && (decide (j.right.col.length ≤ 40) && (decide (j.left.val.word.length ≤ 40) && (decide (j.right.val.word.length ≤ 40) && !(j.cols.any fun s => decide (40 < s.length)))))))
theorem longS_any (k : Bs) (w : World) : Calls Tryz.prog 29 #[.string (bs k)] w fun e w' => e = .returned (.bool (decide (40 < k.length))) ∧ Keeps [] w w' := by
 go_enter Tryz.func29, Tryz.ntmps29
 go_wp2
 go_ret
 exact ⟨congrArg (fun b => Ending.returned (.bool b)) (by rw [decide_eq_decide]; omega), Keeps.refl _ _⟩
set_option maxHeartbeats 4000000 in
theorem short_any (j : Jb) (Ao : Option Addr) (co : Nat) (Ai : Option Addr) (ni ci : Nat) (Ac : Option Addr) (cc : Nat) (w : World) (hR : Rd w [] 1 Ac j.cols.length (strs j.cols)) :
  Calls Tryz.prog 13 #[jAgg j Ao co Ai ni ci Ac cc] w fun e w' => e = .returned (.bool (shortB j)) ∧ Keeps [] w w' := by
 obtain ⟨R, hRR⟩ : ∃ R, shortB j = R := ⟨_, rfl⟩
 rw [hRR]
 unfold shortB at hRR
 obtain ⟨at_, code, outs, js, cols, op, ⟨lc, lk, ln, lw⟩, ⟨rc, rk, rn, rw'⟩, retry⟩ := j
 simp only at hRR hR
 have HR := Lib.hid hRR
 have HA := Lib.hid hR
 clear hRR hR
 show Calls _ _ #[.agg #[.int .i64 at_, .int .i64 code, .slice Ao outs.length co, .slice Ai ni ci, .slice Ac cols.length cc, .string (bs op), .string (bs lc), .int .i64 lk, .int .i64 ln, .string (bs lw), .string (bs rc), .int .i64 rk, .int .i64 rn, .string (bs rw'), .int .i64 retry]] w _
 by_cases h0 : 10 < cols.length
 ·have t0 : ¬ (cols.length : Int) ≤ 10 := by omega
  have HF : Hid (R = false) := Lib.hid (by rw [← HR.out, decide_eq_false (by omega : ¬ cols.length ≤ 10), Bool.false_and])
  clear HR HA h0
  go_enter Tryz.func13, Tryz.ntmps13
  go_wp2
  go_ret
  exact ⟨by rw [HF.out]; rfl, (Keeps.refl _ _).alloc _⟩
 have t0 : (cols.length : Int) ≤ 10 := by omega
 rw [decide_eq_true (by omega : cols.length ≤ 10), Bool.true_and] at HR
 by_cases h1 : 20 < op.length
 ·have t1 : ¬ (op.length : Int) ≤ 20 := by omega
  have HF : Hid (R = false) := Lib.hid (by rw [← HR.out, decide_eq_false (by omega : ¬ op.length ≤ 20), Bool.false_and])
  clear HR HA h0 h1
  go_enter Tryz.func13, Tryz.ntmps13
  go_wp2
  go_ret
  exact ⟨by rw [HF.out]; rfl, (Keeps.refl _ _).alloc _⟩
 have t1 : (op.length : Int) ≤ 20 := by omega
 rw [decide_eq_true (by omega : op.length ≤ 20), Bool.true_and] at HR
 by_cases h2 : 40 < lc.length
 ·have t2 : ¬ (lc.length : Int) ≤ 40 := by omega
  have HF : Hid (R = false) := Lib.hid (by rw [← HR.out, decide_eq_false (by omega : ¬ lc.length ≤ 40), Bool.false_and])
  clear HR HA h0 h1 h2
  go_enter Tryz.func13, Tryz.ntmps13
  go_wp2
  go_ret
  exact ⟨by rw [HF.out]; rfl, (Keeps.refl _ _).alloc _⟩
 have t2 : (lc.length : Int) ≤ 40 := by omega
 rw [decide_eq_true (by omega : lc.length ≤ 40), Bool.true_and] at HR
 by_cases h3 : 40 < rc.length
 ·have t3 : ¬ (rc.length : Int) ≤ 40 := by omega
  have HF : Hid (R = false) := Lib.hid (by rw [← HR.out, decide_eq_false (by omega : ¬ rc.length ≤ 40), Bool.false_and])
  clear HR HA h0 h1 h2 h3
  go_enter Tryz.func13, Tryz.ntmps13
  go_wp2
  go_ret
  exact ⟨by rw [HF.out]; rfl, (Keeps.refl _ _).alloc _⟩
 have t3 : (rc.length : Int) ≤ 40 := by omega
 rw [decide_eq_true (by omega : rc.length ≤ 40), Bool.true_and] at HR
 by_cases h4 : 40 < lw.length
 ·have t4 : ¬ (lw.length : Int) ≤ 40 := by omega
  have HF : Hid (R = false) := Lib.hid (by rw [← HR.out, decide_eq_false (by omega : ¬ lw.length ≤ 40), Bool.false_and])
  clear HR HA h0 h1 h2 h3 h4
  go_enter Tryz.func13, Tryz.ntmps13
  go_wp2
  go_ret
  exact ⟨by rw [HF.out]; rfl, (Keeps.refl _ _).alloc _⟩
 have t4 : (lw.length : Int) ≤ 40 := by omega
 rw [decide_eq_true (by omega : lw.length ≤ 40), Bool.true_and] at HR
 by_cases h5 : 40 < rw'.length
 ·have t5 : ¬ (rw'.length : Int) ≤ 40 := by omega
  have HF : Hid (R = false) := Lib.hid (by rw [← HR.out, decide_eq_false (by omega : ¬ rw'.length ≤ 40), Bool.false_and])
  clear HR HA h0 h1 h2 h3 h4 h5
  go_enter Tryz.func13, Tryz.ntmps13
  go_wp2
  go_ret
  exact ⟨by rw [HF.out]; rfl, (Keeps.refl _ _).alloc _⟩
 have t5 : (rw'.length : Int) ≤ 40 := by omega
 rw [decide_eq_true (by omega : rw'.length ≤ 40), Bool.true_and] at HR
 have HC := Lib.hid (fun W (q : Keeps [] w W) => containsFuncS_any 29 #[] (enters_of Tryz.func29 (by kernel_rfl) rfl) (fun s => decide (40 < s.length)) cols Ac cc W (HA.out.keep q) (by omega) (fun v _ W _ => longS_any v W))
 generalize (cols.any fun s => decide (40 < s.length)) = X at *
 clear HA h0 h1 h2 h3 h4 h5
 go_enter Tryz.func13, Tryz.ntmps13
 go_wp2_with (go_at_call 14; refine (HC.out _ ((Keeps.refl _ _).alloc _)).mono ?_; rintro e W2 ⟨rfl, hk2⟩)
 go_ret
 exact ⟨by rw [← HR.out]; rfl, ((Keeps.refl _ _).alloc _).trans hk2⟩
end Go.Proofs.YtpfkjejknlkkoaaGreatDoor
namespace Go.Proofs.YtpfkjejknlkkoaaGreatDoor
open Go.RowKit
theorem rd_set {W : World} {b k size n : Nat} {v : Value} {A : Option Addr} {xs : List Value} (hs : 0 < size) (h : Rd W [] size A n xs) (hno : ∀ o, A = some ⟨b, o, none⟩ → (∀ j u, xs[j]? = some u → W.cell? ⟨b, o + j, none⟩ = some u) → ∀ j u, xs[j]? = some u → o + j ≠ k) : Rd (W.setCell ⟨b, k, none⟩ v) [] size A n xs := by
 refine ⟨h.1, fun hn => ?_⟩
 obtain ⟨ad, e, hb, hl, hc⟩ := h.2 hn
 obtain ⟨b', o, e2, _, _, hc2⟩ := h.open' hn hs
 rw [e] at e2
 injection e2 with e2
 subst e2
 refine ⟨_, e, hb, by simpa [World.setCell] using hl, fun j u hu => ?_⟩
 rw [add_at]
 by_cases hbb : b' = b
 ·subst hbb
  have hne := hno o e hc2 j u hu
  exact (World.cell?_setCell_other W ⟨b', k, none⟩ ⟨b', o + j, none⟩ v (fun he => hne (by injection he with _ he _; exact he.symm))).trans (hc2 j u hu)
 ·exact (World.cell?_setCell_other W ⟨b, k, none⟩ ⟨b', o + j, none⟩ v (fun he => hbb (by injection he with he _ _; exact he.symm))).trans (hc2 j u hu)
structure JobBox (W : World) (b : Nat) : Prop where
 c0 : ∃ k n, W.cell? ⟨b, 0, none⟩ = some (.int k n)
 c1 : ∃ k n, W.cell? ⟨b, 1, none⟩ = some (.int k n)
 c2 : ∃ A n c, W.cell? ⟨b, 2, none⟩ = some (.slice A n c)
 c4 : ∃ A n c, W.cell? ⟨b, 4, none⟩ = some (.slice A n c)
 c5 : ∃ s, W.cell? ⟨b, 5, none⟩ = some (.string s)
 c6 : ∃ s, W.cell? ⟨b, 6, none⟩ = some (.string s)
theorem JobBox.of {W : World} {b : Nat} {t : TypeId} {i0 i1 : Int} {k0 k1 : IntKind} {A2 A4 : Option Addr} {n2 m2 n4 m4 : Nat} {v3 v7 v8 v9 v10 v11 v12 v13 v14 : Value} {s5 s6 : ByteArray} (h : Blk W b t #[.int k0 i0, .int k1 i1, .slice A2 n2 m2, v3, .slice A4 n4 m4, .string s5, .string s6, v7, v8, v9, v10, v11, v12, v13, v14]) : JobBox W b :=
 ⟨⟨_, _, h.cell 0⟩, ⟨_, _, h.cell 1⟩, ⟨_, _, _, h.cell 2⟩, ⟨_, _, _, h.cell 4⟩, ⟨_, h.cell 5⟩, ⟨_, h.cell 6⟩⟩
theorem vs_split (l : List Vl) (j : Nat) (u : Value) (h : (vsCells l)[j]? = some u) : ∃ i x, i < l.length ∧ x = l.getD i ⟨0, 0, []⟩ ∧ ((j = i * 3 ∧ u = .int .i64 x.kind) ∨ (j = i * 3 + 1 ∧ u = .int .i64 x.num) ∨ (j = i * 3 + 2 ∧ u = .string (bs x.word))) := by
 have hj := (List.getElem?_eq_some_iff.1 h).1
 have hl : (vsCells l).length = l.length * 3 := by
  clear h hj
  induction l with
  | nil => rfl
  | cons p l ih =>
   unfold vsCells at ih ⊢
   rw [List.flatMap_cons, List.length_append, ih]
   simp [vCells]
   omega
 have hi : j / 3 < l.length := by omega
 obtain ⟨g0, g1, g2⟩ := vsCells_at l (j / 3) hi
 refine ⟨j / 3, _, hi, rfl, ?_⟩
 have hd : l.getD (j / 3) ⟨0, 0, []⟩ = l[j / 3] := by rw [List.getD_eq_getElem?_getD, List.getElem?_eq_getElem hi]; rfl
 rw [hd]
 have h3 : j % 3 = 0 ∨ j % 3 = 1 ∨ j % 3 = 2 := by omega
 rcases h3 with h3 | h3 | h3
 ·left
  have e : j = j / 3 * 3 := by omega
  refine ⟨e, ?_⟩
  rw [← e, h] at g0
  exact Option.some.inj g0
 ·right; left
  have e : j = j / 3 * 3 + 1 := by omega
  refine ⟨e, ?_⟩
  rw [← e, h] at g1
  exact Option.some.inj g1
 ·right; right
  have e : j = j / 3 * 3 + 2 := by omega
  refine ⟨e, ?_⟩
  rw [← e, h] at g2
  exact Option.some.inj g2
theorem cs_split (l : List Cl) (j : Nat) (u : Value) (h : (csCells l)[j]? = some u) : ∃ i x, i < l.length ∧ x = l.getD i zC ∧ ((j = i * 2 ∧ u = .string (bs x.name)) ∨ (j = i * 2 + 1 ∧ u = .int .i64 x.kind)) := by
 have hj := (List.getElem?_eq_some_iff.1 h).1
 have hl : (csCells l).length = l.length * 2 := by
  clear h hj
  induction l with
  | nil => rfl
  | cons p l ih =>
   unfold csCells at ih ⊢
   rw [List.flatMap_cons, List.length_append, ih]
   simp [cCells]
   omega
 have hi : j / 2 < l.length := by omega
 obtain ⟨g0, g1⟩ := csCells_at l (j / 2) hi
 refine ⟨j / 2, _, hi, rfl, ?_⟩
 have hd : l.getD (j / 2) zC = l[j / 2] := by rw [List.getD_eq_getElem?_getD, List.getElem?_eq_getElem hi]; rfl
 rw [hd]
 have h3 : j % 2 = 0 ∨ j % 2 = 1 := by omega
 rcases h3 with h3 | h3
 ·left
  have e : j = j / 2 * 2 := by omega
  refine ⟨e, ?_⟩
  rw [← e, h] at g0
  exact Option.some.inj g0
 ·right
  have e : j = j / 2 * 2 + 1 := by omega
  refine ⟨e, ?_⟩
  rw [← e, h] at g1
  exact Option.some.inj g1
theorem far_vs {W : World} {b : Nat} (hb : JobBox W b) {k : Nat} (hk : k = 1 ∨ k = 5) (l : List Vl) (o : Nat) (hc : ∀ j u, (vsCells l)[j]? = some u → W.cell? ⟨b, o + j, none⟩ = some u) : ∀ j u, (vsCells l)[j]? = some u → o + j ≠ k := fun j u hu he => by
 obtain ⟨⟨k0, n0, c0⟩, ⟨k1, n1, c1⟩, ⟨A2, n2, m2, c2⟩, ⟨A4, n4, m4, c4⟩, ⟨s5, c5⟩, ⟨s6, c6⟩⟩ := hb
 obtain ⟨i, x, hi, _, h⟩ := vs_split l j u hu
 obtain ⟨g0, g1, g2⟩ := vsCells_at l i hi
 have e0 := hc _ _ g0
 have e1 := hc _ _ g1
 have e2 := hc _ _ g2
 rcases hk with rfl | rfl
 ·rcases h with ⟨rfl, _⟩ | ⟨rfl, _⟩ | ⟨rfl, _⟩
  ·rw [show o + (i * 3 + 1) = 2 by omega, c2] at e1; cases e1
  ·rw [show o + (i * 3 + 2) = 2 by omega, c2] at e2; cases e2
  ·rw [show o + (i * 3 + 2) = 1 by omega, c1] at e2; cases e2
 ·rcases h with ⟨rfl, _⟩ | ⟨rfl, _⟩ | ⟨rfl, _⟩
  ·rw [show o + i * 3 = 5 by omega, c5] at e0; cases e0
  ·rw [show o + (i * 3 + 1) = 5 by omega, c5] at e1; cases e1
  ·rw [show o + (i * 3 + 1) = 4 by omega, c4] at e1; cases e1
theorem far_cs {W : World} {b : Nat} (hb : JobBox W b) {k : Nat} (hk : k = 1 ∨ k = 5) (l : List Cl) (o : Nat) (hc : ∀ j u, (csCells l)[j]? = some u → W.cell? ⟨b, o + j, none⟩ = some u) : ∀ j u, (csCells l)[j]? = some u → o + j ≠ k := fun j u hu he => by
 obtain ⟨⟨k0, n0, c0⟩, ⟨k1, n1, c1⟩, ⟨A2, n2, m2, c2⟩, ⟨A4, n4, m4, c4⟩, ⟨s5, c5⟩, ⟨s6, c6⟩⟩ := hb
 obtain ⟨i, x, hi, _, h⟩ := cs_split l j u hu
 obtain ⟨g0, g1⟩ := csCells_at l i hi
 have e0 := hc _ _ g0
 have e1 := hc _ _ g1
 rcases hk with rfl | rfl
 ·rcases h with ⟨rfl, _⟩ | ⟨rfl, _⟩
  ·rw [show o + i * 2 = 1 by omega, c1] at e0; cases e0
  ·rw [show o + i * 2 = 0 by omega, c0] at e0; cases e0
 ·rcases h with ⟨rfl, _⟩ | ⟨rfl, _⟩
  ·rw [show o + (i * 2 + 1) = 6 by omega, c6] at e1; cases e1
  ·rw [show o + (i * 2 + 1) = 5 by omega, c5] at e1; cases e1
theorem HeadIs.job {W : World} {b k : Nat} {u v : Value} {l : List Cl} (hb : JobBox W b) (hk : k = 1 ∨ k = 5) (h : HeadIs W u l) : HeadIs (W.setCell ⟨b, k, none⟩ v) u l := by
 obtain ⟨A, c, e, hc, hA⟩ := h
 exact ⟨A, c, e, hc, rd_set (by omega) hA fun o _ hcs => far_cs hb hk l o hcs⟩
theorem RowIs.job {W : World} {b k : Nat} {u v : Value} {l : List Vl} (hb : JobBox W b) (hk : k = 1 ∨ k = 5) (h : RowIs W [] u l) : RowIs (W.setCell ⟨b, k, none⟩ v) [] u l := by
 obtain ⟨A, c, e, hc, hA⟩ := h
 exact ⟨A, c, e, hc, rd_set (by omega) hA fun o _ hcs => far_vs hb hk l o hcs⟩
theorem RdRows.job {W : World} {b k : Nat} {v : Value} {A : Option Addr} {rs : List (List Vl)} (hb : JobBox W b) (hk : k = 1 ∨ k = 5) (h : RdRows W [] A rs) : RdRows (W.setCell ⟨b, k, none⟩ v) [] A rs := by
 obtain ⟨us, hl, hu, hi⟩ := h
 refine ⟨us, hl, rd_set (by omega) hu fun o _ hcs j u hj he => ?_, fun i a b' => (hi i a b').job hb hk⟩
 have hjl := (List.getElem?_eq_some_iff.1 hj).1
 obtain ⟨A', c', e, _⟩ := hi j hjl (by omega)
 have hu' : us[j] = u := (List.getElem?_eq_some_iff.1 hj).2
 have hc := hcs j u hj
 rw [he, ← hu', e] at hc
 obtain ⟨_, ⟨k1, n1, c1⟩, _, _, ⟨s5, c5⟩, _⟩ := hb
 rcases hk with rfl | rfl
 ·rw [c1] at hc; cases hc
 ·rw [c5] at hc; cases hc
theorem TbIs.job {W : World} {b k : Nat} {v : Value} {u : Value × Value} {t : Tb} (hb : JobBox W b) (hk : k = 1 ∨ k = 5) (h : TbIs W u t) : TbIs (W.setCell ⟨b, k, none⟩ v) u t := by
 obtain ⟨h1, ⟨B, d, e2, hd, h2⟩⟩ := h
 exact ⟨h1.job hb hk, ⟨B, d, e2, hd, h2.job hb hk⟩⟩
theorem RdTbs.job {W : World} {b k : Nat} {v : Value} {A : Option Addr} {ts : List Tb} (hb : JobBox W b) (hk : k = 1 ∨ k = 5) (h : RdTbs W A ts) : RdTbs (W.setCell ⟨b, k, none⟩ v) A ts := by
 obtain ⟨us, hl, hu, hi⟩ := h
 refine ⟨us, hl, rd_set (by omega) hu fun o _ hcs j u hj he => ?_, fun i a b' => (hi i a b').job hb hk⟩
 have hjl := (List.getElem?_eq_some_iff.1 hj).1
 rw [flat2_length] at hjl
 have hi' : j / 2 < us.length := by omega
 obtain ⟨g0, g1⟩ := flat2_at us (j / 2) hi'
 obtain ⟨⟨A1, c1, e1, _⟩, ⟨A2, c2, e2, _⟩⟩ := hi (j / 2) hi' (by omega)
 obtain ⟨_, ⟨k1, n1, c1'⟩, _, _, ⟨s5, c5⟩, _⟩ := hb
 have hsl : ∃ X n m, u = .slice X n m := by
  have h3 : j % 2 = 0 ∨ j % 2 = 1 := by omega
  rcases h3 with h3 | h3
  ·rw [show j / 2 * 2 = j by omega, hj] at g0
   exact ⟨_, _, _, (Option.some.inj g0).trans e1⟩
  ·rw [show j / 2 * 2 + 1 = j by omega, hj] at g1
   exact ⟨_, _, _, (Option.some.inj g1).trans e2⟩
 obtain ⟨X, n, m, rfl⟩ := hsl
 have hc := hcs j _ hj
 rw [he] at hc
 rcases hk with rfl | rfl
 ·rw [c1'] at hc; cases hc
 ·rw [c5] at hc; cases hc
end Go.Proofs.YtpfkjejknlkkoaaGreatDoor
namespace Go.Proofs.YtpfkjejknlkkoaaGreatDoor
open Go.RowKit Go.BigFrame
attribute [local go_sem] bs_size bs_extract bs_append bs_toList
attribute [local go_sem] KW.cell
theorem longO_any (k : Bs) (w : World) : Calls Tryz.prog 15 #[.string (bs k)] w fun e w' => e = .returned (.bool (decide (40 < k.length))) ∧ Keeps [] w w' := by
 go_enter Tryz.func15, Tryz.ntmps15
 go_wp2
 go_ret
 exact ⟨congrArg (fun b => Ending.returned (.bool b)) (by rw [decide_eq_decide]; omega), Keeps.refl _ _⟩
theorem isFst_any (cols : List Bs) (nm : Bs) (hc : cols[0]? = some nm) (Ax : Option Addr) (cx : Nat) (d : Cl) (b : Nat) (w : World) (hb : w.cell? ⟨b, 0, none⟩ = some (.slice Ax cols.length cx)) (hX : Rd w [] 1 Ax cols.length (strs cols)) :
  Calls Tryz.prog 17 #[cAgg d, .pointer (some ⟨b, 0, none⟩)] w fun e w' => e = .returned (.bool (d.name == nm)) ∧ Keeps [] w w' := by
 have hl : 0 < cols.length := (List.getElem?_eq_some_iff.1 hc).1
 obtain ⟨b2, o2, rfl, _, hb2, hcs⟩ := hX.open' hl (by omega)
 have e0 : w.cell? ⟨b2, o2, none⟩ = some (.string (bs nm)) := hcs 0 _ (by rw [strs_at' cols 0 hl]; rw [List.getElem?_eq_getElem hl] at hc; injection hc with hc; rw [hc])
 have hlt := World.block_lt_of_cell? _ _ hb
 have hk : Keeps [] w (w.alloc (.cells #[.string (bs d.name), .int .i64 d.kind] 39)) := (Keeps.refl [] w).alloc _
 have q0 := hk.cell_of hb (by simp)
 have q1 := hk.cell_of e0 (by simp)
 have p0 : (w.alloc (.cells #[.string (bs d.name), .int .i64 d.kind] 39)).cell? ⟨w.heap.size, 0, none⟩ = some (.string (bs d.name)) := (Blk.new _ _ _).cell 0
 have HK := Lib.hid hk
 have HP := Lib.hid (And.intro q0 (And.intro q1 p0))
 have hl1 : (0 : Int) < (cols.length : Int) := by omega
 have hz1 := World.block_lt_of_cell? _ _ q0
 have hz2 := World.block_lt_of_cell? _ _ q1
 have hz3 := World.block_lt_of_cell? _ _ p0
 have HZ := Lib.hid (And.intro hz1 (And.intro hz2 hz3))
 clear hk hcs hX hc q0 q1 p0 hz1 hz2 hz3 hb e0 hb2 hlt
 show Calls _ _ #[.agg #[.string (bs d.name), .int .i64 d.kind], .pointer (some ⟨b, 0, none⟩)] w _
 go_enter Tryz.func17, Tryz.ntmps17
 go_upto_region 1 with (fail)
 obtain ⟨q0, q1, p0⟩ := HP.out
 obtain ⟨hz1, hz2, hz3⟩ := HZ.out
 generalize w.alloc (.cells #[.string (bs d.name), .int .i64 d.kind] 39) = x0 at *
 generalize w.heap.size = g at *
 refine wp_region_keeps (by kernel_rfl) (by kernel_rfl) ?_
 repeat (go_big_quiet_step (fail))
 refine wpQuiet_nil ?_
 intro w5 hk5
 go_wp2
 go_ret
 exact ⟨rfl, HK.out.trans hk5⟩
theorem ixFst_any (cols : List Bs) (nm : Bs) (hc : cols[0]? = some nm) (Ax : Option Addr) (cx : Nat) (l : List Cl) (A : Option Addr) (c b : Nat) (w : World) (hA : Rd w [] 2 A l.length (csCells l)) (hl : l.length ≤ 4294967296) (hb : w.cell? ⟨b, 0, none⟩ = some (.slice Ax cols.length cx)) (hX : Rd w [] 1 Ax cols.length (strs cols)) :
  Calls Tryz.prog 8 #[.slice A l.length c, .func (.func 17) #[] #[.pointer (some ⟨b, 0, none⟩)]] w fun e w' => e = .returned (.int .i64 (optI (colIx l nm))) ∧ Keeps [] w w' := by
 have h := indexFuncC_any 17 #[.pointer (some ⟨b, 0, none⟩)] (enters_of Tryz.func17 (by kernel_rfl) rfl) (fun c => c.name == nm) l A c w hA hl (fun d _ W q => isFst_any cols nm hc Ax cx d b W (q.cell_of hb (by simp)) (hX.keep q))
 rw [findIxC_col] at h
 exact h
theorem count_succ (l : List (List Vl)) (r : List Vl) (k : Nat) (h : k < l.length) : (l.take (k + 1)).count r = (l.take k).count r + (if l[k] = r then 1 else 0) := by
 rw [List.take_succ_eq_append_getElem h, List.count_append, List.count_singleton]
 simp only [beq_iff_eq]
set_option maxHeartbeats 4000000 in
set_option maxRecDepth 40000 in
theorem in_any (l : List (List Vl)) (A : Option Addr) (d : Nat) (rs : List (List Vl)) (B : Option Addr) (e' bt bi n : Nat) (w : World) (hA : RdRows w [] A l) (hB : RdRows w [] B rs) (hn : n < rs.length) (hl : l.length ≤ 100000) (hlr : ∀ r ∈ l, r.length ≤ 4294967296) (hrr : ∀ r ∈ rs, r.length ≤ 4294967296)
  (hb : w.cell? ⟨bt, 1, none⟩ = some (.slice B rs.length e')) (hi : w.cell? ⟨bi, 0, none⟩ = some (.int .i64 n)) :
  Calls Tryz.prog 18 #[.slice A l.length d, .pointer (some ⟨bt, 0, none⟩), .pointer (some ⟨bi, 0, none⟩)] w fun e w' => e = .returned (.int .i64 ((l.count rs[n] : Nat) : Int)) ∧ Keeps [] w w' := by
 obtain ⟨vs, hvl, hvr, hvi⟩ := hB
 have hvx : n < vs.length := by omega
 obtain ⟨Ar, cr, hv, hcr, hrd⟩ := hvi n hvx hn
 obtain ⟨b7, o7, rfl, _, hb7, hcs⟩ := hvr.open' (by omega) (by omega)
 have d7 := hcs (n * 1) vs[n] (by rw [Nat.mul_one]; exact List.getElem?_eq_getElem hvx)
 rw [Nat.mul_one, hv] at d7
 have hr4 := hrr _ (List.getElem_mem hn)
 generalize rs[n] = r at *
 have HA := Lib.hid hA
 have HRD := Lib.hid hrd
 have HR4 := Lib.hid hr4
 have HLR := Lib.hid hlr
 have HC := Lib.hid (And.intro hb (And.intro hi (And.intro d7 hb7)))
 have hni : (n : Int) < (rs.length : Int) := by omega
 have hn0 : (0 : Int) ≤ (n : Int) := by omega
 have hlr2 : ∀ q : List (List Vl), q.length ≤ 100000 → (q.count r : Nat) ≤ 100000 := fun q h => Nat.le_trans List.count_le_length h
 have HCL := Lib.hid hlr2
 clear hA hvl hvr hvi hv hcr hrd hcs d7 hr4 hrr hlr hb hi hlr2 hb7
 go_enter Tryz.func18, Tryz.ntmps18
 go_wp2_with fail
 go_loopw [5, 6] (fun u i wx => ∃ k : Nat, k ≤ l.length ∧ i = .int .i64 k ∧ u = .int .i64 (((l.take k).count r : Nat) : Int) ∧ Hid (Keeps [] w wx)) (fun _ i _ => l.length - (intOf i).toNat)
 case atStart => exact ⟨0, Nat.zero_le _, rfl, rfl, Lib.hid (Keeps.refl _ _)⟩
 case round =>
  obtain ⟨k, hk, rfl, rfl, HK⟩ := hrel
  obtain ⟨v, rfl⟩ : ∃ z : World, z = wr := ⟨_, rfl⟩
  by_cases hlt : k < l.length
  ·have hki : (k : Int) < (l.length : Int) := by omega
   have hk0 : (0 : Int) ≤ (k : Int) := by omega
   have HS := Lib.hid (count_succ l r k hlt)
   have hcb := HCL.out (l.take k) (by rw [List.length_take]; omega)
   obtain ⟨us, hul, hur, hui⟩ := HA.out
   have hux : k < us.length := by omega
   obtain ⟨Ax, cx, hu, hcx, hxd⟩ := hui k hux hlt
   obtain ⟨b8, o8, rfl, _, hb8, hcs⟩ := hur.open' (by omega) (by omega)
   have e7 := hcs (k * 1) us[k] (by rw [Nat.mul_one]; exact List.getElem?_eq_getElem hux)
   rw [Nat.mul_one, hu] at e7
   have hx4 := HLR.out _ (List.getElem_mem hlt)
   generalize l[k] = x at *
   have HEQ : Hid (∀ W, Keeps [] v W → Calls Tryz.prog 19 #[.slice Ax x.length cx, .slice Ar r.length cr] W fun e w' => e = .returned (.bool (decide (x = r))) ∧ Keeps [] W w') := Lib.hid fun W q => equalV_any x r Ax Ar cx cr W (hxd.keep (HK.out.trans q)) (HRD.out.keep (HK.out.trans q)) hx4 HR4.out
   have q7 := HK.out.cell_of e7 (by simp)
   have q1 := HK.out.cell_of HC.out.1 (by simp)
   have q2 := HK.out.cell_of HC.out.2.1 (by simp)
   have q3 := HK.out.cell_of HC.out.2.2.1 (by simp)
   have z1 := World.block_lt_of_cell? _ _ q7
   have z2 := World.block_lt_of_cell? _ _ q1
   have z3 := World.block_lt_of_cell? _ _ q2
   have z4 := World.block_lt_of_cell? _ _ q3
   clear hul hur hui hu hcx hxd hcs e7 hx4 hb8
   generalize (l.take k).count r = C at *
   by_cases he : x = r
   ·rw [decide_eq_true he] at HEQ
    rw [if_pos he] at HS
    clear he
    go_upto_region 5 with (fail)
    refine wp_region_keeps (by kernel_rfl) (by kernel_rfl) ?_
    repeat (go_big_quiet_step (first | with_reducible exact KW.of HEQ.out _))
    refine wpQuiet_nil ?_
    intro w5 hk5
    have HK5 := Lib.hid (HK.out.trans hk5)
    clear hk5
    go_wp2
    go_roundw
    case rel => exact ⟨k + 1, by omega, by go_num, by rw [HS.out]; go_num, HK5⟩
    case measure => simp [intOf]; omega
   ·rw [decide_eq_false he] at HEQ
    rw [if_neg he, Nat.add_zero] at HS
    clear he
    go_upto_region 5 with (fail)
    refine wp_region_keeps (by kernel_rfl) (by kernel_rfl) ?_
    repeat (go_big_quiet_step (first | with_reducible exact KW.of HEQ.out _))
    refine wpQuiet_nil ?_
    intro w5 hk5
    have HK5 := Lib.hid (HK.out.trans hk5)
    clear hk5
    go_wp2
    go_roundw
    case rel => exact ⟨k + 1, by omega, by go_num, by rw [HS.out]; rfl, HK5⟩
    case measure => simp [intOf]; omega
  ·obtain rfl : k = l.length := by omega
   rw [List.take_length]
   go_wp2
   go_ret
   exact ⟨rfl, HK.out⟩
theorem small_len {t : Tb} (hs : smallB t = true) : t.cols.length ≤ 8 ∧ t.rows.length ≤ 65 := by
 unfold smallB at hs
 simp only [Bool.and_eq_true, Bool.not_eq_true', Bool.or_eq_false_iff, decide_eq_false_iff_not, List.any_eq_false] at hs
 obtain ⟨⟨⟨h1, h2⟩, _⟩, _⟩ := hs
 omega
theorem TabIn.job {W : World} {b k : Nat} {v : Value} {t : Tb} {A B : Option Addr} {c d : Nat} (hb : JobBox W b) (hk : k = 1 ∨ k = 5) (h : TabIn W t A B c d) : TabIn (W.setCell ⟨b, k, none⟩ v) t A B c d :=
 ⟨rd_set (by omega) h.cols fun o _ hcs => far_cs hb hk _ o hcs, h.cc, h.rows.job hb hk, h.cd, h.names, h.ln, h.lm, h.lr⟩
def boxI (p : Value) (w : World) : Nat := match p with
 | .pointer (some a) => (match w.cell? a with | some v => (intOf v).toNat | none => 0)
 | _ => 0
theorem boxI_of {w : World} {a : Addr} {n : Nat} (h : w.cell? a = some (.int .i64 (n : Int))) : boxI (.pointer (some a)) w = n := by
 unfold boxI
 simp only [h]
 simp [intOf]
set_option maxHeartbeats 16000000 in
set_option maxRecDepth 100000 in
theorem osort_all (cols : List Bs) (Ax : Option Addr) (cx : Nat) (j : Jb) (Ao : Option Addr) (co : Nat) (Ai : Option Addr) (ni ci : Nat) (Ac : Option Addr) (cc : Nat) (t : Tb) (A B : Option Addr) (c d : Nat) (w : World) (hX : Rd w [] 1 Ax cols.length (strs cols)) (hxc : cols.length ≤ cx) (hJ : JobAny w j Ao co Ac cc) (hT : TabAny w t A B c d) (hE : OEnv w) :
  Calls Tryz.prog 4 #[.slice Ax cols.length cx, jAgg j Ao co Ai ni ci Ac cc, tAgg A t.cols.length c B t.rows.length d] w fun e w' => e = .returned (.bool true) ∧ Keeps [] w w' := by
 have HSH0 := Lib.hid (fun W (q : Keeps [] w W) => short_any j Ao co Ai ni ci Ac cc W (hJ.cols.keep q))
 have HS1 : Hid (∀ W, Keeps [] w W → Calls Tryz.prog 5 #[.agg #[.slice A t.cols.length c, .slice B t.rows.length d]] W fun e W' => e = .returned (.bool (smallB t)) ∧ Keeps [] W W') := Lib.hid fun W q => small_any t A B c d W (hT.cols.keep q) (hT.rows.keep q)
 have HLG : Hid (∀ W, Keeps [] w W → cols.length ≤ 8 → Calls Tryz.prog 14 #[.slice Ax cols.length cx, .func (.func 15) #[] #[]] W fun e W' => e = .returned (.bool (cols.any fun s => decide (40 < s.length))) ∧ Keeps [] W W') := Lib.hid fun W q h8 => containsFuncS_any 15 #[] (enters_of Tryz.func15 (by kernel_rfl) rfl) (fun s => decide (40 < s.length)) cols Ax cx W (hX.keep q) (by omega) (fun v _ W _ => longO_any v W)
 have HDN := Lib.hid (fun W (q : Keeps [] w W) => done_any W (hE.quiet q))
 have HTN : Hid (smallB t = true → TabIn w t A B c d ∧ t.cols.length ≤ 8 ∧ t.rows.length ≤ 65) := Lib.hid fun h => ⟨(hT.inn h).1, small_len h⟩
 have HXR := Lib.hid hX
 have HE := Lib.hid hE
 have HJC := Lib.hid (And.intro hJ.cols (And.intro hJ.cq hJ.lc))
 obtain ⟨s, hs⟩ : ∃ f, (oneJ (jSo cols) [t]).getD eX = f := ⟨_, rfl⟩
 obtain ⟨bS, hbS⟩ : ∃ f, (oneJ (jSo cols) [t]).isSome = f := ⟨_, rfl⟩
 have HSS := Lib.hid (fun (h : bS = true) => someX hs hbS h)
 obtain ⟨fa, hfa⟩ : ∃ f, (oneJ (jSf j) [s]).getD eX = f := ⟨_, rfl⟩
 obtain ⟨ba, hba⟩ : ∃ f, (oneJ (jSf j) [s]).isSome = f := ⟨_, rfl⟩
 obtain ⟨fb, hfb⟩ : ∃ f, (oneJ (jSf j) [t]).getD eX = f := ⟨_, rfl⟩
 obtain ⟨bb, hbb⟩ : ∃ f, (oneJ (jSf j) [t]).isSome = f := ⟨_, rfl⟩
 have HFI : Hid (bS = true → (ba = false ∧ bb = false) ∨ (ba = true ∧ bb = true ∧ oneJ (jSo cols) [fb] = some fa)) := Lib.hid fun h => by
  rcases sort_filter (j := j) (someX hs hbS h) with ⟨h1, h2⟩ | ⟨a, b, h1, h2, h3⟩
  ·left
   exact ⟨by rw [← hba, h1]; rfl, by rw [← hbb, h2]; rfl⟩
  ·right
   refine ⟨by rw [← hba, h1]; rfl, by rw [← hbb, h2]; rfl, ?_⟩
   rw [h1] at hfa
   rw [h2] at hfb
   rw [← hfa, ← hfb]
   exact h3
 have HO1 : Hid (cols.length ≤ 8 → smallB t = true → ∀ W n, W.heap.size = n → Keeps [] w W → Calls Tryz.prog 7 #[.agg #[.int .i64 0, .int .i64 4, .slice none 0 0, .slice none 0 0, .slice Ax cols.length cx, .string ⟨#[]⟩, .string ⟨#[]⟩, .int .i64 0, .int .i64 0, .string ⟨#[]⟩, .string ⟨#[]⟩, .int .i64 0, .int .i64 0, .string ⟨#[]⟩, .int .i64 0], .slice (some ⟨n, 0, none⟩) 1 1] (W.alloc (.cells #[.slice A t.cols.length c, .slice B t.rows.length d] 25)) fun e w' => (∃ A1 c1 A2 c2, e = .returned (.tuple #[.agg #[.slice A1 s.cols.length c1, .slice A2 s.rows.length c2], .bool bS]) ∧ TabIn w' s A1 A2 c1 c2) ∧ Keeps [] W w') := Lib.hid fun h8 hsm W n hn q => by
  have h := HTN.out hsm
  exact oneXU (j := jSo cols) (show (0 : Int) ≤ 4 by decide) (show (4 : Int) < 9 by decide) hs hbS Ax cx A B c d W n hn (HE.out.quiet q) (HXR.out.keep q) hxc (by show cols.length ≤ _; omega) (h.1.quiet q) (by omega) none 0 none 0 0
 have HOX : Hid (cols.length ≤ 8 → ∀ u f, oneJ (jSo cols) [u] = some f → u.cols.length ≤ 8 → ∀ W n A1 c1 A2 c2, W.heap.size = n → Keeps [] w W → TabIn W u A1 A2 c1 c2 → Calls Tryz.prog 7 #[.agg #[.int .i64 0, .int .i64 4, .slice none 0 0, .slice none 0 0, .slice Ax cols.length cx, .string ⟨#[]⟩, .string ⟨#[]⟩, .int .i64 0, .int .i64 0, .string ⟨#[]⟩, .string ⟨#[]⟩, .int .i64 0, .int .i64 0, .string ⟨#[]⟩, .int .i64 0], .slice (some ⟨n, 0, none⟩) 1 1] (W.alloc (.cells #[.slice A1 u.cols.length c1, .slice A2 u.rows.length c2] 25)) fun e w' => (∃ A1 c1 A2 c2, e = .returned (.tuple #[.agg #[.slice A1 f.cols.length c1, .slice A2 f.rows.length c2], .bool true]) ∧ TabIn w' f A1 A2 c1 c2) ∧ Keeps [] W w') := Lib.hid fun h8 u f hu hu8 W n A1 c1 A2 c2 hn q hI =>
  oneXU (j := jSo cols) (show (0 : Int) ≤ 4 by decide) (show (4 : Int) < 9 by decide) (by rw [hu]; rfl) (by rw [hu]; rfl) Ax cx A1 A2 c1 c2 W n hn (HE.out.quiet q) (HXR.out.keep q) hxc (by show cols.length ≤ _; omega) hI (by omega) none 0 none 0 0
 have HSC : Hid (bS = true → s.cols = t.cols) := Lib.hid fun h => by
  obtain ⟨_, _, e⟩ := (one_sort rfl).1 (someX hs hbS h)
  rw [e]
 have HFC : Hid (bb = true → fb.cols = t.cols) := Lib.hid fun h => by
  have h1 := someX hfb hbb h
  rw [one_filter (jSf j) t rfl] at h1
  split at h1
  ·injection h1 with h1
   rw [← h1]; rfl
  ·cases h1
 have HOF : Hid (shortB j = true → ∀ u f b, (oneJ (jSf j) [u]).getD eX = f → (oneJ (jSf j) [u]).isSome = b → u.cols.length ≤ 8 → ∀ W n A1 c1 A2 c2, W.heap.size = n → Keeps [] w W → TabIn W u A1 A2 c1 c2 → Calls Tryz.prog 7 #[jAgg (jSf j) Ao co Ai ni ci Ac cc, .slice (some ⟨n, 0, none⟩) 1 1] (W.alloc (.cells #[.slice A1 u.cols.length c1, .slice A2 u.rows.length c2] 25)) fun e w' => (∃ A1 c1 A2 c2, e = .returned (.tuple #[.agg #[.slice A1 f.cols.length c1, .slice A2 f.rows.length c2], .bool b]) ∧ TabIn w' f A1 A2 c1 c2) ∧ Keeps [] W w') := Lib.hid fun hsh u f b hf hb hu8 W n A1 c1 A2 c2 hn q hI =>
  oneXU (j := jSf j) (show (0 : Int) ≤ 1 by decide) (show (1 : Int) < 9 by decide) hf hb Ac cc A1 A2 c1 c2 W n hn (HE.out.quiet q) (HJC.out.1.keep q) HJC.out.2.1 (by
   show j.cols.length ≤ _
   unfold shortB at hsh
   simp only [Bool.and_eq_true, decide_eq_true_eq] at hsh
   omega) hI (by omega) Ao co Ai ni ci
 have HOA : Hid (shortB j = true → s.cols.length ≤ 8 → ∀ W n A1 c1 A2 c2, W.heap.size = n → Keeps [] w W → TabIn W s A1 A2 c1 c2 → Calls Tryz.prog 7 #[jAgg (jSf j) Ao co Ai ni ci Ac cc, .slice (some ⟨n, 0, none⟩) 1 1] (W.alloc (.cells #[.slice A1 s.cols.length c1, .slice A2 s.rows.length c2] 25)) fun e w' => (∃ A1 c1 A2 c2, e = .returned (.tuple #[.agg #[.slice A1 fa.cols.length c1, .slice A2 fa.rows.length c2], .bool ba]) ∧ TabIn w' fa A1 A2 c1 c2) ∧ Keeps [] W w') := Lib.hid fun hsh h8 => HOF.out hsh s fa ba hfa hba h8
 have HOB : Hid (shortB j = true → t.cols.length ≤ 8 → ∀ W n, W.heap.size = n → Keeps [] w W → TabIn W t A B c d → Calls Tryz.prog 7 #[jAgg (jSf j) Ao co Ai ni ci Ac cc, .slice (some ⟨n, 0, none⟩) 1 1] (W.alloc (.cells #[.slice A t.cols.length c, .slice B t.rows.length d] 25)) fun e w' => (∃ A1 c1 A2 c2, e = .returned (.tuple #[.agg #[.slice A1 fb.cols.length c1, .slice A2 fb.rows.length c2], .bool bb]) ∧ TabIn w' fb A1 A2 c1 c2) ∧ Keeps [] W w') := Lib.hid fun hsh h8 W n hn q hI => HOF.out hsh t fb bb hfb hbb h8 W n A c B d hn q hI
 clear hX hJ hT hE hs hbS hfa hba hfb hbb HOF HE
 obtain ⟨at_, code, outs, js, jcols, op, ⟨lc, lk, ln, lw⟩, ⟨rc, rk, rn, rw'⟩, retry⟩ := j
 obtain ⟨SJ, hSJ⟩ : ∃ b, shortB (⟨at_, code, outs, js, jcols, op, ⟨lc, lk, ln, lw⟩, ⟨rc, rk, rn, rw'⟩, retry⟩ : Jb) = b := ⟨_, rfl⟩
 rw [hSJ] at HSH0 HOA HOB
 have HSH : Hid (∀ W, Keeps [] w W → Calls Tryz.prog 13 #[.agg #[.int .i64 at_, .int .i64 code, .slice Ao outs.length co, .slice Ai ni ci, .slice Ac jcols.length cc, .string (bs op), .string (bs lc), .int .i64 lk, .int .i64 ln, .string (bs lw), .string (bs rc), .int .i64 rk, .int .i64 rn, .string (bs rw'), .int .i64 retry]] W fun e W' => e = .returned (.bool SJ) ∧ Keeps [] W W') := HSH0
 have HOA' : Hid (SJ = true → s.cols.length ≤ 8 → ∀ W n A1 c1 A2 c2, W.heap.size = n → Keeps [] w W → TabIn W s A1 A2 c1 c2 → Calls Tryz.prog 7 #[.agg #[.int .i64 at_, .int .i64 1, .slice Ao outs.length co, .slice Ai ni ci, .slice Ac jcols.length cc, .string (bs op), .string (bs lc), .int .i64 lk, .int .i64 ln, .string (bs lw), .string (bs rc), .int .i64 rk, .int .i64 rn, .string (bs rw'), .int .i64 retry], .slice (some ⟨n, 0, none⟩) 1 1] (W.alloc (.cells #[.slice A1 s.cols.length c1, .slice A2 s.rows.length c2] 25)) fun e w' => (∃ A1 c1 A2 c2, e = .returned (.tuple #[.agg #[.slice A1 fa.cols.length c1, .slice A2 fa.rows.length c2], .bool ba]) ∧ TabIn w' fa A1 A2 c1 c2) ∧ Keeps [] W w') := HOA
 have HOB' : Hid (SJ = true → t.cols.length ≤ 8 → ∀ W n, W.heap.size = n → Keeps [] w W → TabIn W t A B c d → Calls Tryz.prog 7 #[.agg #[.int .i64 at_, .int .i64 1, .slice Ao outs.length co, .slice Ai ni ci, .slice Ac jcols.length cc, .string (bs op), .string (bs lc), .int .i64 lk, .int .i64 ln, .string (bs lw), .string (bs rc), .int .i64 rk, .int .i64 rn, .string (bs rw'), .int .i64 retry], .slice (some ⟨n, 0, none⟩) 1 1] (W.alloc (.cells #[.slice A t.cols.length c, .slice B t.rows.length d] 25)) fun e w' => (∃ A1 c1 A2 c2, e = .returned (.tuple #[.agg #[.slice A1 fb.cols.length c1, .slice A2 fb.rows.length c2], .bool bb]) ∧ TabIn w' fb A1 A2 c1 c2) ∧ Keeps [] W w') := HOB
 clear HSH0 HOA HOB hSJ HJC
 obtain ⟨x0, hx0⟩ : ∃ x0, (((w.alloc (.cells #[.slice Ax cols.length cx] 30)).alloc (.cells #[.int .i64 at_, .int .i64 code, .slice Ao outs.length co, .slice Ai ni ci, .slice Ac jcols.length cc, .string (bs op), .string (bs lc), .int .i64 lk, .int .i64 ln, .string (bs lw), .string (bs rc), .int .i64 rk, .int .i64 rn, .string (bs rw'), .int .i64 retry] 36)).alloc (.cells #[.slice A t.cols.length c, .slice B t.rows.length d] 25)) = x0 := ⟨_, rfl⟩
 have HK0 : Hid (Keeps [] w x0) := Lib.hid (by rw [← hx0]; exact (((Keeps.refl _ _).alloc _).alloc _).alloc _)
 have HB1 : Hid (Blk x0 w.heap.size 30 #[.slice Ax cols.length cx]) := Lib.hid (by rw [← hx0]; exact ((Blk.new _ _ _).alloc _).alloc _)
 have HB2 : Hid (Blk x0 (w.heap.size + 1) 36 #[.int .i64 at_, .int .i64 code, .slice Ao outs.length co, .slice Ai ni ci, .slice Ac jcols.length cc, .string (bs op), .string (bs lc), .int .i64 lk, .int .i64 ln, .string (bs lw), .string (bs rc), .int .i64 rk, .int .i64 rn, .string (bs rw'), .int .i64 retry]) := Lib.hid (by
  have h := Blk.new (w.alloc (.cells #[.slice Ax cols.length cx] 30)) 36 #[.int .i64 at_, .int .i64 code, .slice Ao outs.length co, .slice Ai ni ci, .slice Ac jcols.length cc, .string (bs op), .string (bs lc), .int .i64 lk, .int .i64 ln, .string (bs lw), .string (bs rc), .int .i64 rk, .int .i64 rn, .string (bs rw'), .int .i64 retry]
  simp only [size_alloc] at h
  rw [← hx0]; exact h.alloc _)
 have HB3 : Hid (Blk x0 (w.heap.size + 1 + 1) 25 #[.slice A t.cols.length c, .slice B t.rows.length d]) := Lib.hid (by
  have h := Blk.new ((w.alloc (.cells #[.slice Ax cols.length cx] 30)).alloc (.cells #[.int .i64 at_, .int .i64 code, .slice Ao outs.length co, .slice Ai ni ci, .slice Ac jcols.length cc, .string (bs op), .string (bs lc), .int .i64 lk, .int .i64 ln, .string (bs lw), .string (bs rc), .int .i64 rk, .int .i64 rn, .string (bs rw'), .int .i64 retry] 36)) 25 #[.slice A t.cols.length c, .slice B t.rows.length d]
  simp only [size_alloc] at h
  rw [← hx0]; exact h)
 have HX0 := Lib.hid hx0
 clear hx0
 show Calls _ _ #[.slice Ax cols.length cx, .agg #[.int .i64 at_, .int .i64 code, .slice Ao outs.length co, .slice Ai ni ci, .slice Ac jcols.length cc, .string (bs op), .string (bs lc), .int .i64 lk, .int .i64 ln, .string (bs lw), .string (bs rc), .int .i64 rk, .int .i64 rn, .string (bs rw'), .int .i64 retry], .agg #[.slice A t.cols.length c, .slice B t.rows.length d]] w _
 go_enter Tryz.func4, Tryz.ntmps4
 go_upto_region 1 with (fail)
 rw [HX0.out]
 obtain ⟨bt, hbt⟩ : ∃ z, w.heap.size = z := ⟨_, rfl⟩
 have HLB : Hid (w.heap.size ≤ bt) := Lib.hid (by omega)
 rw [hbt] at HB1 HB2 HB3 ⊢
 clear hbt HX0
 obtain ⟨y0, y1, y2, y3, y4, y5, y6, y7, y8, y9, y10, y11, y12, y13, y14⟩ := box15 HB2.out
 have lj : bt + 1 < x0.heap.size := HB2.out.lt
 cases SJ with
 | false =>
  go_wp2_with fail
  refine (HSH.out _ HK0.out).mono ?_
  rintro e w2 ⟨rfl, hk2⟩
  go_wp2
  go_ret
  exact ⟨rfl, HK0.out.trans hk2⟩
 | true =>
  go_wp2_with fail
  refine (HSH.out _ HK0.out).mono ?_
  rintro e w2 ⟨rfl, hk2⟩
  have Kw2 := Lib.hid hk2
  clear hk2 y0 y1 y2 y3 y4 y5 y6 y7 y8 y9 y10 y11 y12 y13 y14 lj HSH
  have q0 : w2.cell? ⟨bt + 1 + 1, 0, none⟩ = some (.slice A t.cols.length c) := (HB3.out.keep Kw2.out (by simp)).cell 0
  have q1 : w2.cell? ⟨bt + 1 + 1, 1, none⟩ = some (.slice B t.rows.length d) := (HB3.out.keep Kw2.out (by simp)).cell 1
  have l1 : bt + 1 + 1 < w2.heap.size := (HB3.out.keep Kw2.out (by simp)).lt
  cases hsm : smallB t with
  | false =>
   rw [hsm] at HS1
   clear hsm HTN HO1
   go_wp2_with fail
   refine (HS1.out _ (HK0.out.trans Kw2.out)).mono ?_
   rintro e w3 ⟨rfl, hk3⟩
   go_wp2
   go_ret
   exact ⟨rfl, (HK0.out.trans Kw2.out).trans hk3⟩
  | true =>
   rw [hsm] at HS1
   obtain ⟨hTI, htc, htr⟩ := HTN.out hsm
   have HT := Lib.hid hTI
   have HO1' := Lib.hid (fun h8 => HO1.out h8 hsm)
   clear hsm HTN hTI HO1
   go_wp2_with fail
   refine (HS1.out _ (HK0.out.trans Kw2.out)).mono ?_
   rintro e w3 ⟨rfl, hk3⟩
   have Kw3 := Lib.hid (Kw2.out.trans hk3)
   clear hk3 q0 q1 l1 HS1 Kw2
   have q0 : w3.cell? ⟨bt, 0, none⟩ = some (.slice Ax cols.length cx) := (HB1.out.keep Kw3.out (by simp)).cell 0
   have l0 : bt < w3.heap.size := (HB1.out.keep Kw3.out (by simp)).lt
   by_cases h8 : 8 < cols.length
   ·have h8i : (8 : Int) < (cols.length : Int) := by omega
    clear h8
    go_wp2
    go_ret
    exact ⟨rfl, HK0.out.trans Kw3.out⟩
   ·have h8i : ¬ (8 : Int) < (cols.length : Int) := by omega
    have h8' : cols.length ≤ 8 := by omega
    clear h8
    have HLG1 := Lib.hid (fun W q => HLG.out W q h8')
    have HO2 := Lib.hid (HO1'.out h8')
    have HOX2 := Lib.hid (HOX.out h8')
    clear HLG HO1' HOX h8'
    cases hlg : (cols.any fun s => decide (40 < s.length)) with
    | true =>
     rw [hlg] at HLG1
     clear hlg
     go_wp2_with fail
     refine (HLG1.out _ (HK0.out.trans Kw3.out)).mono ?_
     rintro e w4 ⟨rfl, hk4⟩
     go_wp2
     go_ret
     exact ⟨rfl, (HK0.out.trans Kw3.out).trans hk4⟩
    | false =>
     rw [hlg] at HLG1
     clear hlg
     go_wp2_with fail
     refine (HLG1.out _ (HK0.out.trans Kw3.out)).mono ?_
     rintro e w4 ⟨rfl, hk4⟩
     have Kw4 := Lib.hid (Kw3.out.trans hk4)
     clear hk4 HLG1 Kw3 q0 l0
     go_wp2_with fail
     refine (HDN.out _ (HK0.out.trans Kw4.out)).mono ?_
     rintro e w5 ⟨rfl, hk5⟩
     have Kw5 := Lib.hid (Kw4.out.trans hk5)
     clear hk5 HDN Kw4 h8i
     have q0 : w5.cell? ⟨bt, 0, none⟩ = some (.slice Ax cols.length cx) := (HB1.out.keep Kw5.out (by simp)).cell 0
     have l0 : bt < w5.heap.size := (HB1.out.keep Kw5.out (by simp)).lt
     go_upto_region 6 with (fail)
     obtain ⟨x6, hx6⟩ : ∃ z, w5.alloc (.cells #[.int .i64 0, .int .i64 4, .slice none 0 0, .slice none 0 0, .slice Ax cols.length cx, .string ⟨#[]⟩, .string ⟨#[]⟩, .int .i64 0, .int .i64 0, .string ⟨#[]⟩, .string ⟨#[]⟩, .int .i64 0, .int .i64 0, .string ⟨#[]⟩, .int .i64 0] 36) = z := ⟨_, rfl⟩
     have Kx6 : Hid (Keeps [] x0 x6) := Lib.hid (by rw [← hx6]; exact Kw5.out.alloc _)
     have HBY : Hid (Blk x6 w5.heap.size 36 #[.int .i64 0, .int .i64 4, .slice none 0 0, .slice none 0 0, .slice Ax cols.length cx, .string ⟨#[]⟩, .string ⟨#[]⟩, .int .i64 0, .int .i64 0, .string ⟨#[]⟩, .string ⟨#[]⟩, .int .i64 0, .int .i64 0, .string ⟨#[]⟩, .int .i64 0]) := Lib.hid (by rw [← hx6]; exact Blk.new _ _ _)
     have HX6 := Lib.hid hx6
     clear hx6
     rw [HX6.out]
     obtain ⟨by', hby⟩ : ∃ z, w5.heap.size = z := ⟨_, rfl⟩
     have HBYL : Hid (bt + 1 < by') := Lib.hid (by have h1 := HB3.out.lt; have h2 := Kw5.out.size; omega)
     rw [hby] at HBY ⊢
     clear hby HX6 Kw5 q0 l0
     have q0 : x6.cell? ⟨bt + 1 + 1, 0, none⟩ = some (.slice A t.cols.length c) := (HB3.out.keep Kx6.out (by simp)).cell 0
     have q1 : x6.cell? ⟨bt + 1 + 1, 1, none⟩ = some (.slice B t.rows.length d) := (HB3.out.keep Kx6.out (by simp)).cell 1
     have l1 : bt + 1 + 1 < x6.heap.size := (HB3.out.keep Kx6.out (by simp)).lt
     obtain ⟨y0, y1, y2, y3, y4, y5, y6, y7, y8, y9, y10, y11, y12, y13, y14⟩ := box15 HBY.out
     have ly : by' < x6.heap.size := HBY.out.lt
     go_wp2_with fail
     clear q0 q1 l1 y0 y1 y2 y3 y4 y5 y6 y7 y8 y9 y10 y11 y12 y13 y14 ly
     refine (HO2.out x6 _ rfl (HK0.out.trans Kx6.out)).mono ?_
     rintro e w7 ⟨⟨A1, c1, A2, c2, rfl, hf⟩, hk7⟩
     have Kw7 := Lib.hid (Kx6.out.trans hk7)
     have HBY7 := Lib.hid (HBY.out.keep hk7 (by simp))
     have HSI := Lib.hid hf
     clear hf hk7 Kx6 HBY HO2
     cases bS with
     | false =>
      go_wp2
      go_ret
      exact ⟨rfl, (HK0.out.trans Kw7.out).alloc _⟩
     | true =>
      have hs1 := HSS.out rfl
      obtain ⟨hag, hlen⟩ := sort_again hs1
      obtain ⟨k, hk, hkl, hord⟩ := sort_first hs1
      have HCT := Lib.hid (fun r => sort_count hs1 r)
      have HSC' := HSC.out rfl
      have HFI' := Lib.hid (HFI.out rfl)
      have HORD := Lib.hid hord
      have HLEN := Lib.hid hlen
      have hrt := ((one_sort rfl).1 hs1).1
      have HRL := Lib.hid (row_len hrt)
      have hsr := sort_right (ns := cols) hrt
      have hse := ((one_sort rfl).1 hs1).2.2
      have HRS : Hid (∀ r ∈ s.rows, r.length = t.cols.length) := Lib.hid fun r hr => by
       rw [hse] at hr
       exact row_len hrt r (sort_mem.1 hr)
      have hc0 : cols[0]? = some (cols.getD 0 []) := by
       have h1 := ((one_sort rfl).1 hs1).2.1.1
       have h2 : 1 ≤ cols.length := h1
       rw [List.getD_eq_getElem?_getD, List.getElem?_eq_getElem (by omega)]; rfl
      have HIX : Hid (∀ W, Keeps [] x0 W → Calls Tryz.prog 8 #[.slice A t.cols.length c, .func (.func 17) #[] #[.pointer (some ⟨bt, 0, none⟩)]] W fun e w' => e = .returned (.int .i64 (k : Int)) ∧ Keeps [] W w') := Lib.hid fun W q => by
       have h := ixFst_any cols _ hc0 Ax cx t.cols A c bt W (HT.out.cols.keep (HK0.out.trans q)) (by omega) ((HB1.out.keep q (by simp)).cell 0) (HXR.out.keep (HK0.out.trans q))
       rw [hk] at h
       exact h
      have hs8 : s.cols.length ≤ 8 := by rw [HSC']; exact htc
      have HO3 := Lib.hid (HOX2.out s s hag hs8)
      have HKL := Lib.hid hkl
      have HSCE := Lib.hid HSC'
      clear HSS HSC hs1 hag hlen hk hord HSC' HFI hrt hsr hse hc0 hkl
      obtain ⟨x8, hx8⟩ : ∃ z, w7.alloc (.cells #[.slice A1 s.cols.length c1, .slice A2 s.rows.length c2] 25) = z := ⟨_, rfl⟩
      have Kx8 : Hid (Keeps [] x0 x8) := Lib.hid (by rw [← hx8]; exact Kw7.out.alloc _)
      have HBS : Hid (Blk x8 w7.heap.size 25 #[.slice A1 s.cols.length c1, .slice A2 s.rows.length c2]) := Lib.hid (by rw [← hx8]; exact Blk.new _ _ _)
      have HSI8 : Hid (TabIn x8 s A1 A2 c1 c2) := Lib.hid (HSI.out.quiet (by rw [← hx8]; exact (Keeps.refl _ _).alloc _))
      have HBY8 : Hid (Blk x8 by' 36 #[.int .i64 0, .int .i64 4, .slice none 0 0, .slice none 0 0, .slice Ax cols.length cx, .string ⟨#[]⟩, .string ⟨#[]⟩, .int .i64 0, .int .i64 0, .string ⟨#[]⟩, .string ⟨#[]⟩, .int .i64 0, .int .i64 0, .string ⟨#[]⟩, .int .i64 0]) := Lib.hid (by rw [← hx8]; exact HBY7.out.alloc _)
      have HX8 := Lib.hid hx8
      clear hx8 Kw7 HBY7 HSI
      go_upto_region 9 with (fail)
      rw [HX8.out]
      obtain ⟨gs, hgs⟩ : ∃ z, w7.heap.size = z := ⟨_, rfl⟩
      rw [hgs] at HBS ⊢
      clear hgs HX8
      have q0 : x8.cell? ⟨gs, 0, none⟩ = some (.slice A1 s.cols.length c1) := HBS.out.cell 0
      have q1 : x8.cell? ⟨gs, 1, none⟩ = some (.slice A2 s.rows.length c2) := HBS.out.cell 1
      have l1 : gs < x8.heap.size := HBS.out.lt
      obtain ⟨y0, y1, y2, y3, y4, y5, y6, y7, y8, y9, y10, y11, y12, y13, y14⟩ := box15 HBY8.out
      have ly : by' < x8.heap.size := HBY8.out.lt
      go_wp2_with fail
      clear q0 q1 l1 y0 y1 y2 y3 y4 y5 y6 y7 y8 y9 y10 y11 y12 y13 y14 ly
      refine (HO3.out x8 _ _ _ _ _ rfl (HK0.out.trans Kx8.out) HSI8.out).mono ?_
      rintro e w9 ⟨⟨A3, c3, A4, c4, rfl, hf⟩, hk9⟩
      have Kw9 := Lib.hid (Kx8.out.trans hk9)
      have HBS9 := Lib.hid (HBS.out.keep hk9 (by simp))
      have HBY9 := Lib.hid (HBY8.out.keep hk9 (by simp))
      have HSI9 := Lib.hid (HSI8.out.quiet hk9)
      have HAG := Lib.hid hf
      clear hf hk9 Kx8 HBS HSI8 HBY8 HO3
      obtain ⟨xa, hxa⟩ : ∃ z, w9.alloc (.cells #[.slice A3 s.cols.length c3, .slice A4 s.rows.length c4] 25) = z := ⟨_, rfl⟩
      have Kxa : Hid (Keeps [] x0 xa) := Lib.hid (by rw [← hxa]; exact Kw9.out.alloc _)
      have HBG : Hid (Blk xa w9.heap.size 25 #[.slice A3 s.cols.length c3, .slice A4 s.rows.length c4]) := Lib.hid (by rw [← hxa]; exact Blk.new _ _ _)
      have HAGa : Hid (TabIn xa s A3 A4 c3 c4) := Lib.hid (HAG.out.quiet (by rw [← hxa]; exact (Keeps.refl _ _).alloc _))
      have HSIa : Hid (TabIn xa s A1 A2 c1 c2) := Lib.hid (HSI9.out.quiet (by rw [← hxa]; exact (Keeps.refl _ _).alloc _))
      have HBSa : Hid (Blk xa gs 25 #[.slice A1 s.cols.length c1, .slice A2 s.rows.length c2]) := Lib.hid (by rw [← hxa]; exact HBS9.out.alloc _)
      have HBYa : Hid (Blk xa by' 36 #[.int .i64 0, .int .i64 4, .slice none 0 0, .slice none 0 0, .slice Ax cols.length cx, .string ⟨#[]⟩, .string ⟨#[]⟩, .int .i64 0, .int .i64 0, .string ⟨#[]⟩, .string ⟨#[]⟩, .int .i64 0, .int .i64 0, .string ⟨#[]⟩, .int .i64 0]) := Lib.hid (by rw [← hxa]; exact HBY9.out.alloc _)
      have HXa := Lib.hid hxa
      clear hxa Kw9 HBS9 HBY9 HSI9 HAG
      go_upto_region 10 with (fail)
      rw [HXa.out]
      obtain ⟨ga, hga⟩ : ∃ z, w9.heap.size = z := ⟨_, rfl⟩
      rw [hga] at HBG ⊢
      clear hga HXa
      have p0 : xa.cell? ⟨ga, 0, none⟩ = some (.slice A3 s.cols.length c3) := HBG.out.cell 0
      have p1 : xa.cell? ⟨ga, 1, none⟩ = some (.slice A4 s.rows.length c4) := HBG.out.cell 1
      have l0 : ga < xa.heap.size := HBG.out.lt
      have q0 : xa.cell? ⟨gs, 0, none⟩ = some (.slice A1 s.cols.length c1) := HBSa.out.cell 0
      have q1 : xa.cell? ⟨gs, 1, none⟩ = some (.slice A2 s.rows.length c2) := HBSa.out.cell 1
      have l1 : gs < xa.heap.size := HBSa.out.lt
      have HSM : Hid (Calls Tryz.prog 16 #[.agg #[.slice A3 s.cols.length c3, .slice A4 s.rows.length c4], .agg #[.slice A1 s.cols.length c1, .slice A2 s.rows.length c2]] xa fun e w' => e = .returned (.bool true) ∧ Keeps [] xa w') := Lib.hid (by
       have h := same_any s s A3 A4 A1 A2 c3 c4 c1 c2 xa HAGa.out.rd HSIa.out.rd
       rw [decide_eq_true rfl] at h
       exact h)
      go_wp2_with fail
      clear p0 p1 l0 q0 q1 l1
      refine HSM.out.mono ?_
      rintro e wb ⟨rfl, hkb⟩
      have Kwb := Lib.hid (Kxa.out.trans hkb)
      have HBSb := Lib.hid (HBSa.out.keep hkb (by simp))
      have HBYb := Lib.hid (HBYa.out.keep hkb (by simp))
      have HSIb := Lib.hid (HSIa.out.quiet hkb)
      clear hkb HSM HAGa HSIa HBSa HBYa HBG Kxa
      have q1 : wb.cell? ⟨gs, 1, none⟩ = some (.slice A2 s.rows.length c2) := HBSb.out.cell 1
      have l1 : gs < wb.heap.size := HBSb.out.lt
      have p0 : wb.cell? ⟨bt + 1 + 1, 0, none⟩ = some (.slice A t.cols.length c) := (HB3.out.keep Kwb.out (by simp)).cell 0
      have p1 : wb.cell? ⟨bt + 1 + 1, 1, none⟩ = some (.slice B t.rows.length d) := (HB3.out.keep Kwb.out (by simp)).cell 1
      have l0 : bt + 1 + 1 < wb.heap.size := (HB3.out.keep Kwb.out (by simp)).lt
      have hlen : (s.rows.length : Int) = (t.rows.length : Int) := by rw [HLEN.out]
      go_wp2_with fail
      clear q1 l1 p0 p1 l0 hlen
      refine (HIX.out _ Kwb.out).mono ?_
      rintro e wc ⟨rfl, hkc⟩
      have Kwc := Lib.hid (Kwb.out.trans hkc)
      have HBSc := Lib.hid (HBSb.out.keep hkc (by simp))
      have HBYc := Lib.hid (HBYb.out.keep hkc (by simp))
      have HSIc := Lib.hid (HSIb.out.quiet hkc)
      clear hkc HIX HBSb HBYb HSIb Kwb
      go_wp2_with fail
      go_loopw [12] (fun i wx => ∃ n : Nat, i = .int .i64 n ∧ 1 ≤ n ∧ (n = 1 ∨ n ≤ s.rows.length) ∧ Hid (Keeps [] wc wx)) (fun i _ => s.rows.length + 1 - (intOf i).toNat)
      case atStart => exact ⟨1, rfl, Nat.le_refl _, .inl rfl, Lib.hid (Keeps.refl _ _)⟩
      case round =>
       obtain ⟨n, rfl, hn1, hnl, HK⟩ := hrel
       obtain ⟨u, rfl⟩ : ∃ z : World, z = wr := ⟨_, rfl⟩
       have HBSu := Lib.hid (HBSc.out.keep HK.out (by simp))
       have HSIu := Lib.hid (HSIc.out.quiet HK.out)
       by_cases hlt : n < s.rows.length
       ·have hlti : (n : Int) < (s.rows.length : Int) := by omega
        have HLT := Lib.hid hlt
        have hs65 : s.rows.length ≤ 65 := by rw [HLEN.out]; exact htr
        obtain ⟨p, hp⟩ : ∃ p, n = p + 1 := ⟨n - 1, by omega⟩
        have HOR : Hid (lessB (s.rows[n].getD k zV) ((s.rows[p]'(by omega)).getD k zV) = false) := Lib.hid (by subst hp; exact HORD.out p hlt)
        obtain ⟨us, hul, hur, hui⟩ := HSIu.out.rows
        have hux : n < us.length := by omega
        have hpx : p < us.length := by omega
        have hps : p < s.rows.length := by omega
        have hr1 := HRS.out _ (List.getElem_mem hlt)
        have hr2 := HRS.out _ (List.getElem_mem hps)
        obtain ⟨Ar, cr, hu, hcr, hrd⟩ := hui n hux hlt
        obtain ⟨Ay, cy, hv, hcy, hyd⟩ := hui p hpx hps
        obtain ⟨b7, o7, rfl, _, hb7, hcs⟩ := hur.open' (by omega) (by omega)
        have d7 := hcs (n * 1) us[n] (by rw [Nat.mul_one]; exact List.getElem?_eq_getElem hux)
        have e7 := hcs (p * 1) us[p] (by rw [Nat.mul_one]; exact List.getElem?_eq_getElem hpx)
        rw [Nat.mul_one, hu] at d7
        rw [Nat.mul_one, hv] at e7
        generalize s.rows[n] = xr at *
        generalize s.rows[p] = yr at *
        have hkl := HKL.out
        obtain ⟨bX, oX, rfl, _, hbX, hxc⟩ := hrd.open' (by omega) (by omega)
        obtain ⟨bY, oY, rfl, _, hbY, hyc⟩ := hyd.open' (by omega) (by omega)
        have hkx : k < xr.length := by omega
        have hky : k < yr.length := by omega
        obtain ⟨z0, z1, z2⟩ := vsCells_at xr k hkx
        have f0 := hxc _ _ z0
        have f1 := hxc _ _ z1
        have f2 := hxc _ _ z2
        rw [← Nat.add_assoc] at f1 f2
        obtain ⟨z3, z4, z5⟩ := vsCells_at yr k hky
        have g0 := hyc _ _ z3
        have g1 := hyc _ _ z4
        have g2 := hyc _ _ z5
        rw [← Nat.add_assoc] at g1 g2
        have gx : xr.getD k zV = xr[k] := by rw [List.getD_eq_getElem?_getD, List.getElem?_eq_getElem hkx]; rfl
        have gy : yr.getD k zV = yr[k] := by rw [List.getD_eq_getElem?_getD, List.getElem?_eq_getElem hky]; rfl
        rw [gx, gy] at HOR
        generalize xr[k] = vx at *
        generalize yr[k] = vy at *
        obtain ⟨ak, an, aw⟩ := vx
        obtain ⟨ck, cn, cw⟩ := vy
        have HLS : Hid (∀ W, Keeps [] u W → Calls Tryz.prog 12 #[.agg #[.int .i64 ak, .int .i64 an, .string (bs aw)], .agg #[.int .i64 ck, .int .i64 cn, .string (bs cw)]] W fun e w' => e = .returned (.bool false) ∧ Keeps [] W w') := Lib.hid fun W _ => by
         have h := less_any ⟨ak, an, aw⟩ ⟨ck, cn, cw⟩ W
         rw [HOR.out] at h
         exact h
        have q1 : u.cell? ⟨gs, 1, none⟩ = some (.slice (some ⟨b7, o7, none⟩) s.rows.length c2) := HBSu.out.cell 1
        have l1 : gs < u.heap.size := HBSu.out.lt
        have hwp : IntKind.i64.wrap ((n : Int) - 1) = (p : Int) := by simp [IntKind.wrap, IntKind.bits, IntKind.signed]; omega
        have hp0 : (0 : Int) ≤ (p : Int) := by omega
        have hpi : (p : Int) < (s.rows.length : Int) := by omega
        have hn0 : (0 : Int) ≤ (n : Int) := by omega
        have hk0 : (0 : Int) ≤ (k : Int) := by omega
        have hkxi : (k : Int) < (xr.length : Int) := by omega
        have hkyi : (k : Int) < (yr.length : Int) := by omega
        have hkf : decide ((k : Int) < 0) = false := decide_eq_false (by omega)
        have hkg : ((k : Int) < 0) = False := eq_false (by omega)
        clear hul hur hui hu hv hcr hcy hrd hyd hcs hxc hyc z0 z1 z2 z3 z4 z5 gx gy hkx hky hr1 hr2 hkl hp HOR
        go_upto_region 16 with (fail)
        refine wp_region_keeps (by kernel_rfl) (by kernel_rfl) ?_
        repeat (go_big_quiet_step (first | with_reducible exact KW.of HLS.out _))
        refine wpQuiet_nil ?_
        intro v5 hk5
        have HK5 := Lib.hid (HK.out.trans hk5)
        clear hk5
        go_wp2
        go_roundw
        case rel => exact ⟨n + 1, by go_num, by omega, .inr HLT.out, HK5⟩
        case measure => have := HLT.out; simp [intOf]; omega
       ·have hlti : ¬ (n : Int) < (s.rows.length : Int) := by omega
        have q1 : u.cell? ⟨gs, 1, none⟩ = some (.slice A2 s.rows.length c2) := HBSu.out.cell 1
        have l1 : gs < u.heap.size := HBSu.out.lt
        have HBYu := Lib.hid (HBYc.out.keep HK.out (by simp))
        have Ku := Lib.hid (Kwc.out.trans HK.out)
        clear hn1 hnl HBSc HBYc HSIc HK Kwc HORD
        have HTB := Lib.hid (show TabIn w t A B c d ∧ s.rows.length ≤ 65 ∧ t.rows.length ≤ 65 from ⟨HT.out, by rw [HLEN.out]; exact htr, htr⟩)
        go_wp2_with fail
        clear q1 l1
        obtain ⟨x2, hx2⟩ : ∃ z, u.alloc (.cells #[.int .i64 0] 3) = z := ⟨_, rfl⟩
        have Kx2 : Hid (Keeps [] x0 x2) := Lib.hid (by rw [← hx2]; exact Ku.out.alloc _)
        have HBI0 : Hid (Blk x2 u.heap.size 3 #[.int .i64 0]) := Lib.hid (by rw [← hx2]; exact Blk.new _ _ _)
        have HBS2 : Hid (Blk x2 gs 25 #[.slice A1 s.cols.length c1, .slice A2 s.rows.length c2]) := Lib.hid (by rw [← hx2]; exact HBSu.out.alloc _)
        have HBY2 : Hid (Blk x2 by' 36 #[.int .i64 0, .int .i64 4, .slice none 0 0, .slice none 0 0, .slice Ax cols.length cx, .string ⟨#[]⟩, .string ⟨#[]⟩, .int .i64 0, .int .i64 0, .string ⟨#[]⟩, .string ⟨#[]⟩, .int .i64 0, .int .i64 0, .string ⟨#[]⟩, .int .i64 0]) := Lib.hid (by rw [← hx2]; exact HBYu.out.alloc _)
        have HSI2 : Hid (TabIn x2 s A1 A2 c1 c2) := Lib.hid (HSIu.out.quiet (by rw [← hx2]; exact (Keeps.refl _ _).alloc _))
        have HSZ2 : Hid (u.heap.size ≤ u.heap.size ∧ u.heap.size + 1 = x2.heap.size) := Lib.hid ⟨Nat.le_refl _, by rw [← hx2, size_alloc]⟩
        have HKU2 : Hid (Keeps [] u x2) := Lib.hid (by rw [← hx2]; exact (Keeps.refl _ _).alloc _)
        have HX2 := Lib.hid hx2
        clear hx2
        rw [HX2.out]
        obtain ⟨g0, hg0⟩ : ∃ z, u.heap.size = z := ⟨_, rfl⟩
        rw [hg0] at HBI0 HSZ2 ⊢
        have HG0 := Lib.hid hg0
        clear hg0 HX2
        go_loopw [13] (fun p wx => ∃ (n bi : Nat), p = .pointer (some ⟨bi, 0, none⟩) ∧ n ≤ t.rows.length ∧ Hid (g0 ≤ bi) ∧ Hid (Blk wx bi 3 #[.int .i64 n]) ∧ Hid (Keeps [] u wx)) (fun p wx => t.rows.length - boxI p wx)
        case atStart => exact ⟨0, g0, rfl, Nat.zero_le _, Lib.hid (Nat.le_refl _), HBI0, HKU2⟩
        case round =>
         obtain ⟨n, bi, rfl, hn, HGI, HBI, HK⟩ := hrel
         obtain ⟨v, rfl⟩ : ∃ z : World, z = wr := ⟨_, rfl⟩
         have Kv := Lib.hid (Ku.out.trans HK.out)
         have i0 : v.cell? ⟨bi, 0, none⟩ = some (.int .i64 n) := HBI.out.cell 0
         have li : bi < v.heap.size := HBI.out.lt
         have p1 : v.cell? ⟨bt + 1 + 1, 1, none⟩ = some (.slice B t.rows.length d) := (HB3.out.keep Kv.out (by simp)).cell 1
         have l0 : bt + 1 + 1 < v.heap.size := (HB3.out.keep Kv.out (by simp)).lt
         by_cases hlt : n < t.rows.length
         ·have hlti : (n : Int) < (t.rows.length : Int) := by omega
          have HLT := Lib.hid hlt
          have hrl : ∀ r ∈ t.rows, r.length ≤ 4294967296 := HTB.out.1.lr
          have hsl : ∀ r ∈ s.rows, r.length ≤ 4294967296 := fun r hr => by rw [HRS.out r hr]; exact HTB.out.1.ln
          obtain ⟨C, hC⟩ : ∃ C, t.rows.count t.rows[n] = C := ⟨_, rfl⟩
          have HI1 : Hid (∀ W, Keeps [] v W → Calls Tryz.prog 18 #[.slice B t.rows.length d, .pointer (some ⟨bt + 1 + 1, 0, none⟩), .pointer (some ⟨bi, 0, none⟩)] W fun e w' => e = .returned (.int .i64 (C : Int)) ∧ Keeps [] W w') := Lib.hid fun W q => by
           have h := in_any t.rows B d t.rows B d (bt + 1 + 1) bi n W (HTB.out.1.rows.keep (HK0.out.trans (Kv.out.trans q))) (HTB.out.1.rows.keep (HK0.out.trans (Kv.out.trans q))) hlt (by have := HTB.out.2.2; omega) hrl hrl (q.cell_of p1 (by simp)) (q.cell_of i0 (by simp))
           exact h.mono fun e w' ⟨h1, h2⟩ => ⟨h1.trans (by subst hC; rfl), h2⟩
          have HI2 : Hid (∀ W, Keeps [] v W → Calls Tryz.prog 18 #[.slice A2 s.rows.length c2, .pointer (some ⟨bt + 1 + 1, 0, none⟩), .pointer (some ⟨bi, 0, none⟩)] W fun e w' => e = .returned (.int .i64 (C : Int)) ∧ Keeps [] W w') := Lib.hid fun W q => by
           have h := in_any s.rows A2 c2 t.rows B d (bt + 1 + 1) bi n W (HSIu.out.rows.keep (HK.out.trans q)) (HTB.out.1.rows.keep (HK0.out.trans (Kv.out.trans q))) hlt (by have := HTB.out.2.1; omega) hsl hrl (q.cell_of p1 (by simp)) (q.cell_of i0 (by simp))
           exact h.mono fun e w' ⟨h1, h2⟩ => ⟨h1.trans (by subst hC; exact congrArg (fun z : Nat => Ending.returned (.int .i64 (z : Int))) (HCT.out _).symm), h2⟩
          have q1 : v.cell? ⟨gs, 1, none⟩ = some (.slice A2 s.rows.length c2) := (HBSu.out.keep HK.out (by simp)).cell 1
          have l1 : gs < v.heap.size := (HBSu.out.keep HK.out (by simp)).lt
          clear hrl hsl hC hlt
          go_upto_region 22 with (fail)
          refine wp_region_keeps (by kernel_rfl) (by kernel_rfl) ?_
          repeat (go_big_quiet_step (first | with_reducible exact KW.of HI1.out _ | with_reducible exact KW.of HI2.out _))
          refine wpQuiet_nil ?_
          intro v5 hk5
          have HK5 := Lib.hid (HK.out.trans hk5)
          have i5 := hk5.cell_of i0 (by simp)
          have li5 : bi < v5.heap.size := Nat.lt_of_lt_of_le li hk5.size
          have HGI5 : Hid (g0 ≤ v5.heap.size) := Lib.hid (by have := HGI.out; omega)
          have hn65 : n ≤ 65 := by have h1 := HTB.out.2.2; have h2 := HLT.out; omega
          clear hk5
          go_wp2
          go_roundw
          case rel => exact ⟨n + 1, v5.heap.size, rfl, HLT.out, HGI5, Lib.hid (Blk.new v5 _ _), Lib.hid (HK5.out.alloc _)⟩
          case measure =>
           have h1 := HLT.out
           rw [boxI_of (n := n + 1) (by exact (Blk.new v5 _ _).cell 0), boxI_of (n := n) (by exact i0)]
           omega
         ·obtain rfl : n = t.rows.length := by omega
          have HJv := Lib.hid (HB2.out.keep Kv.out (by simp))
          have y1 : v.cell? ⟨bt + 1, 1, none⟩ = some (.int .i64 code) := HJv.out.cell 1
          have z1 : v.frozen? ⟨bt + 1, 1, none⟩ = false := HJv.out.frozen 1
          have lj : bt + 1 < v.heap.size := HJv.out.lt
          have HSIv := Lib.hid (HSIu.out.quiet HK.out)
          have HBSv := Lib.hid (HBSu.out.keep HK.out (by simp))
          have HBYv := Lib.hid (HBYu.out.keep HK.out (by simp))
          have HBTv := Lib.hid (HB3.out.keep Kv.out (by simp))
          go_upto_region 27 with (fail)
          clear y1 z1 lj p1 l0 i0 li
          obtain ⟨xj, hxj⟩ : ∃ z, v.setCell ⟨bt + 1, 1, none⟩ (.int .i64 1) = z := ⟨_, rfl⟩
          have Kxj : Hid (Keeps [] w xj) := Lib.hid (by rw [← hxj]; exact (HK0.out.trans Kv.out).setCell (.inr (by have := HLB.out; show w.heap.size ≤ bt + 1; omega)) _)
          have HJj : Hid (Blk xj (bt + 1) 36 #[.int .i64 at_, .int .i64 1, .slice Ao outs.length co, .slice Ai ni ci, .slice Ac jcols.length cc, .string (bs op), .string (bs lc), .int .i64 lk, .int .i64 ln, .string (bs lw), .string (bs rc), .int .i64 rk, .int .i64 rn, .string (bs rw'), .int .i64 retry]) := Lib.hid (by rw [← hxj]; exact (HJv.out.set 1 _).congr rfl)
          have HSIj : Hid (TabIn xj s A1 A2 c1 c2) := Lib.hid (by rw [← hxj]; exact HSIv.out.job (JobBox.of HJv.out) (.inl rfl))
          have HBSj : Hid (Blk xj gs 25 #[.slice A1 s.cols.length c1, .slice A2 s.rows.length c2]) := Lib.hid (by rw [← hxj]; exact HBSv.out.far (HBSv.out.ne HJv.out (by decide)) _)
          have HBYj : Hid (Blk xj by' 36 #[.int .i64 0, .int .i64 4, .slice none 0 0, .slice none 0 0, .slice Ax cols.length cx, .string ⟨#[]⟩, .string ⟨#[]⟩, .int .i64 0, .int .i64 0, .string ⟨#[]⟩, .string ⟨#[]⟩, .int .i64 0, .int .i64 0, .string ⟨#[]⟩, .int .i64 0]) := Lib.hid (by rw [← hxj]; exact HBYv.out.far (by have := HBYL.out; show by' ≠ bt + 1; omega) _)
          have HBTj : Hid (Blk xj (bt + 1 + 1) 25 #[.slice A t.cols.length c, .slice B t.rows.length d]) := Lib.hid (by rw [← hxj]; exact HBTv.out.far (HBTv.out.ne HJv.out (by decide)) _)
          have HXJ := Lib.hid hxj
          clear hxj
          rw [HXJ.out]
          clear HXJ HSIv HBSv HBYv HBTv HJv HBI HK Kv HBI0 HKU2 Kx2 HBS2 HBY2 HSI2 HSZ2 HGI HCT HRS HRL HSIu HBSu HBYu Ku
          have hsc8 : s.cols.length ≤ 8 := by rw [HSCE.out]; exact htc
          have HOA2 := Lib.hid (HOA'.out (by trivial) hsc8)
          have HOB2 := Lib.hid (HOB'.out (by trivial) htc)
          clear HOA' HOB' hsc8
          obtain ⟨y0, y1, y2, y3, y4, y5, y6, y7, y8, y9, y10, y11, y12, y13, y14⟩ := box15 HJj.out
          have lj : bt + 1 < xj.heap.size := HJj.out.lt
          have q0 : xj.cell? ⟨gs, 0, none⟩ = some (.slice A1 s.cols.length c1) := HBSj.out.cell 0
          have q1 : xj.cell? ⟨gs, 1, none⟩ = some (.slice A2 s.rows.length c2) := HBSj.out.cell 1
          have l1 : gs < xj.heap.size := HBSj.out.lt
          go_wp2_with fail
          clear y0 y1 y2 y3 y4 y5 y6 y7 y8 y9 y10 y11 y12 y13 y14 lj q0 q1 l1
          refine (HOA2.out xj _ _ _ _ _ rfl Kxj.out HSIj.out).mono ?_
          rintro e w20 ⟨⟨A5, c5, A6, c6, rfl, hf⟩, hk20⟩
          obtain ⟨x20, hx20⟩ : ∃ z, w20.alloc (.cells #[.slice A5 fa.cols.length c5, .slice A6 fa.rows.length c6] 25) = z := ⟨_, rfl⟩
          have hk21 : Keeps [] xj x20 := by rw [← hx20]; exact hk20.alloc _
          have HFA : Hid (TabIn x20 fa A5 A6 c5 c6) := Lib.hid (hf.quiet (by rw [← hx20]; exact (Keeps.refl _ _).alloc _))
          have HBA : Hid (Blk x20 w20.heap.size 25 #[.slice A5 fa.cols.length c5, .slice A6 fa.rows.length c6]) := Lib.hid (by rw [← hx20]; exact Blk.new _ _ _)
          have Kx20 := Lib.hid (Kxj.out.trans hk21)
          have HJ20 := Lib.hid (HJj.out.keep hk21 (by simp))
          have HBY20 := Lib.hid (HBYj.out.keep hk21 (by simp))
          have HBT20 := Lib.hid (HBTj.out.keep hk21 (by simp))
          have HX20 := Lib.hid hx20
          clear hx20 hf hk20 hk21 HJj HBYj HBTj HBSj HSIj Kxj HOA2
          go_upto_region 28 with (fail)
          rw [HX20.out]
          obtain ⟨ga2, hga2⟩ : ∃ z, w20.heap.size = z := ⟨_, rfl⟩
          rw [hga2] at HBA ⊢
          clear hga2 HX20
          obtain ⟨y0, y1, y2, y3, y4, y5, y6, y7, y8, y9, y10, y11, y12, y13, y14⟩ := box15 HJ20.out
          have lj : bt + 1 < x20.heap.size := HJ20.out.lt
          have q0 : x20.cell? ⟨bt + 1 + 1, 0, none⟩ = some (.slice A t.cols.length c) := HBT20.out.cell 0
          have q1 : x20.cell? ⟨bt + 1 + 1, 1, none⟩ = some (.slice B t.rows.length d) := HBT20.out.cell 1
          have l1 : bt + 1 + 1 < x20.heap.size := HBT20.out.lt
          go_wp2_with fail
          clear y0 y1 y2 y3 y4 y5 y6 y7 y8 y9 y10 y11 y12 y13 y14 lj q0 q1 l1
          refine (HOB2.out x20 _ rfl Kx20.out (HTB.out.1.quiet Kx20.out)).mono ?_
          rintro e w22 ⟨⟨A7, c7, A8, c8, rfl, hf⟩, hk22⟩
          obtain ⟨x22, hx22⟩ : ∃ z, w22.alloc (.cells #[.slice A7 fb.cols.length c7, .slice A8 fb.rows.length c8] 25) = z := ⟨_, rfl⟩
          have hk23 : Keeps [] x20 x22 := by rw [← hx22]; exact hk22.alloc _
          have HFB : Hid (TabIn x22 fb A7 A8 c7 c8) := Lib.hid (hf.quiet (by rw [← hx22]; exact (Keeps.refl _ _).alloc _))
          have HBB : Hid (Blk x22 w22.heap.size 25 #[.slice A7 fb.cols.length c7, .slice A8 fb.rows.length c8]) := Lib.hid (by rw [← hx22]; exact Blk.new _ _ _)
          have Kx22 := Lib.hid (Kx20.out.trans hk23)
          have HBY22 := Lib.hid (HBY20.out.keep hk23 (by simp))
          have HBA22 := Lib.hid (HBA.out.keep hk23 (by simp))
          have HFA22 := Lib.hid (HFA.out.quiet hk23)
          have HX22 := Lib.hid hx22
          clear hx22 hf hk22 hk23 HJ20 HBY20 HBT20 HBA HFA Kx20 HOB2
          go_upto_region 29 with (fail)
          rw [HX22.out]
          obtain ⟨gb, hgb⟩ : ∃ z, w22.heap.size = z := ⟨_, rfl⟩
          rw [hgb] at HBB ⊢
          clear hgb HX22
          rcases HFI'.out with ⟨rfl, rfl⟩ | ⟨rfl, rfl, hfin⟩
          ·go_wp2
           go_ret
           exact ⟨rfl, Kx22.out⟩
          ·have hb8 : fb.cols.length ≤ 8 := by rw [HFC.out rfl]; exact htc
           have HO5 := Lib.hid (HOX2.out fb fa hfin hb8)
           clear hb8 hfin HFI' HFC HOX2
           obtain ⟨y0, y1, y2, y3, y4, y5, y6, y7, y8, y9, y10, y11, y12, y13, y14⟩ := box15 HBY22.out
           have lj : by' < x22.heap.size := HBY22.out.lt
           have q0 : x22.cell? ⟨gb, 0, none⟩ = some (.slice A7 fb.cols.length c7) := HBB.out.cell 0
           have q1 : x22.cell? ⟨gb, 1, none⟩ = some (.slice A8 fb.rows.length c8) := HBB.out.cell 1
           have l1 : gb < x22.heap.size := HBB.out.lt
           go_wp2_with fail
           clear y0 y1 y2 y3 y4 y5 y6 y7 y8 y9 y10 y11 y12 y13 y14 lj q0 q1 l1
           refine (HO5.out x22 _ _ _ _ _ rfl Kx22.out HFB.out).mono ?_
           rintro e w24 ⟨⟨A9, c9, AA, ca, rfl, hf⟩, hk24⟩
           obtain ⟨x24, hx24⟩ : ∃ z, w24.alloc (.cells #[.slice A9 fa.cols.length c9, .slice AA fa.rows.length ca] 25) = z := ⟨_, rfl⟩
           have hk25 : Keeps [] x22 x24 := by rw [← hx24]; exact hk24.alloc _
           have HFC2 : Hid (TabIn x24 fa A9 AA c9 ca) := Lib.hid (hf.quiet (by rw [← hx24]; exact (Keeps.refl _ _).alloc _))
           have HBC : Hid (Blk x24 w24.heap.size 25 #[.slice A9 fa.cols.length c9, .slice AA fa.rows.length ca]) := Lib.hid (by rw [← hx24]; exact Blk.new _ _ _)
           have Kx24 := Lib.hid (Kx22.out.trans hk25)
           have HBA24 := Lib.hid (HBA22.out.keep hk25 (by simp))
           have HFA24 := Lib.hid (HFA22.out.quiet hk25)
           have HX24 := Lib.hid hx24
           clear hx24 hf hk24 hk25 HBY22 HBB HFB HBA22 HFA22 Kx22 HO5
           go_upto_region 32 with (fail)
           rw [HX24.out]
           obtain ⟨gc, hgc⟩ : ∃ z, w24.heap.size = z := ⟨_, rfl⟩
           rw [hgc] at HBC ⊢
           clear hgc HX24
           have HSM : Hid (Calls Tryz.prog 16 #[.agg #[.slice A5 fa.cols.length c5, .slice A6 fa.rows.length c6], .agg #[.slice A9 fa.cols.length c9, .slice AA fa.rows.length ca]] x24 fun e w' => e = .returned (.bool true) ∧ Keeps [] x24 w') := Lib.hid (by
            have h := same_any fa fa A5 A6 A9 AA c5 c6 c9 ca x24 HFA24.out.rd HFC2.out.rd
            rw [decide_eq_true rfl] at h
            exact h)
           have p0 : x24.cell? ⟨ga2, 0, none⟩ = some (.slice A5 fa.cols.length c5) := HBA24.out.cell 0
           have p1 : x24.cell? ⟨ga2, 1, none⟩ = some (.slice A6 fa.rows.length c6) := HBA24.out.cell 1
           have l0 : ga2 < x24.heap.size := HBA24.out.lt
           have q0 : x24.cell? ⟨gc, 0, none⟩ = some (.slice A9 fa.cols.length c9) := HBC.out.cell 0
           have q1 : x24.cell? ⟨gc, 1, none⟩ = some (.slice AA fa.rows.length ca) := HBC.out.cell 1
           have l1 : gc < x24.heap.size := HBC.out.lt
           go_wp2_with fail
           clear p0 p1 l0 q0 q1 l1
           refine HSM.out.mono ?_
           rintro e w26 ⟨rfl, hk26⟩
           go_wp2
           go_ret
           exact ⟨rfl, Kx24.out.trans hk26⟩
end Go.Proofs.YtpfkjejknlkkoaaGreatDoor
