/- Slices of texts. strconv.Atoi, as far as it is asked. table.ParseValue. -/
import Derived.Test.YtpagiajlefejcaaGreatDoorProg
import Derived.Test.YtpagiajlefejcaaGreatDoorTbrM1
import Derived.Test.YtpagiajlefejcaaGreatDoorShTab
import Derived.Lib.ConvBytes
import Derived.Lib.AtoiAll
import Derived.Test.YtpagiajlefejcaaGreatDoorTbrM8
set_option linter.unusedSimpArgs false
set_option linter.unusedVariables false
namespace Go.Proofs.YtpagiajlefejcaaGreatDoor
open Go.RowKit
def strs (l : List Bs) : List Value := l.map fun s => .string (bs s)
theorem strs_length (l : List Bs) : (strs l).length = l.length := by simp [strs]
theorem strs_at' (l : List Bs) (k : Nat) (h : k < l.length) : (strs l)[k]? = some (.string (bs l[k])) := by simp [strs, h]
theorem strs_snoc (l : List Bs) (s : Bs) : strs (l ++ [s]) = strs l ++ [.string (bs s)] := by simp [strs]
theorem sinfo : (Tryz.prog.info? 9).map (fun i => (i.zero, i.size, i.bytes)) = some (some (.string ⟨#[]⟩), 1, 16) := by kernel_rfl
theorem slice_str {P : Program} {T : TypeId} (hT : P.underlying T = some .string) (s : Bs) (lo hi : Nat) (h1 : lo ≤ hi) (h2 : hi ≤ s.length) (W : World) :
  (Instr.slice T (.string (bs s)) (some (.int .i64 (lo : Int))) (some (.int .i64 (hi : Int))) none).run P W = .ok (.string (bs ((s.take hi).drop lo))) W := by
 have h3 : (lo : Int) ≤ (hi : Int) := by omega
 have h4 : (hi : Int) ≤ (s.length : Int) := by omega
 have e : (bs s).extract lo hi = bs ((s.take hi).drop lo) := bs_extract s lo hi
 rw [← e]
 have h5 : hi ≤ (bs s).size := by rw [bs_size]; exact h2
 have h6 : (hi : Int) ≤ ((bs s).size : Int) := by rw [bs_size]; exact h4
 go_simp
end Go.Proofs.YtpagiajlefejcaaGreatDoor
namespace Go.Proofs.YtpagiajlefejcaaGreatDoor
open Go.RowKit
attribute [local go_sem] bs_size bs_extract bs_append bs_toList
theorem atoi_ok {l : Bs} {v : Int} (h : Lib.atoiAll l = .ok v) : numOk v := by
 unfold Lib.atoiAll at h
 split at h
 ·cases h
 ·simp only at h
  split at h
  ·cases h
  ·cases h
  ·rename_i u _
   split at h
   ·cases h
   ·split at h
    ·cases h
    ·injection h with h
     subst h
     unfold numOk
     split <;> omega
theorem atoi_env (s : Bs) (hs : s.length ≤ 1000000000) (w : World) (he1 : ∃ t p, w.cell? ⟨6, 0, none⟩ = some (.iface t p)) (he2 : ∃ t p, w.cell? ⟨7, 0, none⟩ = some (.iface t p)) :
  (∃ v, Lib.atoiAll s = .ok v ∧ numOk v ∧ Calls Tryz.prog 65 #[.string (bs s)] w fun e w' => e = .returned (.tuple #[.int .i64 v, .nilIface]) ∧ Keeps [] w w') ∨
  ((∀ v, Lib.atoiAll s ≠ .ok v) ∧ Calls Tryz.prog 65 #[.string (bs s)] w fun e w' => (∃ n t p, e = .returned (.tuple #[.int .i64 n, .iface t p])) ∧ Keeps [] w w') := by
 rcases h : Lib.atoiAll s with v | _ | _
 ·
  left
  refine ⟨v, rfl, atoi_ok h, (Tryz.strconv_Atoi_ok (bs s) (by rw [bs_size]; omega) v h w).mono ?_⟩
  rintro e w' ⟨rfl, hw⟩
  refine ⟨rfl, ?_⟩
  rcases hw with rfl | ⟨t, rfl⟩
  ·exact Keeps.refl _ _
  ·exact Keeps.of_below (Lib.bytesWorld_below _ _ _)
 ·
  right
  refine ⟨fun v hv => (by cases hv), ?_⟩
  obtain ⟨t, p, hc⟩ := he1
  refine (Tryz.strconv_Atoi_syntax (bs s) (by rw [bs_size]; omega) h (.iface t p) w hc (.inr ⟨_, _, rfl⟩)).mono ?_
  rintro e w' ⟨N, rfl, _, _, hb⟩
  exact ⟨⟨_, _, _, rfl⟩, Keeps.of_below hb⟩
 ·
  right
  refine ⟨fun v hv => (by cases hv), ?_⟩
  obtain ⟨t, p, hc⟩ := he2
  refine (Tryz.strconv_Atoi_range (bs s) (by rw [bs_size]; omega) h (.iface t p) w hc (.inr ⟨_, _, rfl⟩)).mono ?_
  rintro e w' ⟨N, rfl, _, _, hb⟩
  exact ⟨⟨_, _, _, rfl⟩, Keeps.of_below hb⟩
end Go.Proofs.YtpagiajlefejcaaGreatDoor
namespace Go.Proofs.YtpagiajlefejcaaGreatDoor
open Go.RowKit Go.Sort
attribute [local go_sem] bs_size bs_extract bs_append bs_toList
theorem atoi_any (s : Bs) (hs : s.length ≤ 1000000000) (w : World) (hE : TEnv w) :
  (∃ v, Lib.atoiAll s = .ok v ∧ numOk v ∧ Calls Tryz.prog 65 #[.string (bs s)] w fun e w' => e = .returned (.tuple #[.int .i64 v, .nilIface]) ∧ Keeps [] w w') ∨
  ((∀ v, Lib.atoiAll s ≠ .ok v) ∧ Calls Tryz.prog 65 #[.string (bs s)] w fun e w' => (∃ n t p, e = .returned (.tuple #[.int .i64 n, .iface t p])) ∧ Keeps [] w w') := atoi_env s hs w hE.esyn hE.erng
def zeroV : Value := .agg #[.int .i64 0, .int .i64 0, .string (bs [])]
def pvRes : Option Vl → Value
 | some v => .tuple #[vAgg v, .nilIface]
 | none => .tuple #[zeroV, .iface 34 (.int .i64 3)]
set_option maxRecDepth 100000 in
set_option maxHeartbeats 4000000 in
theorem pval_quoted (s : Bs) (hs : s.length ≤ 1000000000) (w : World) (hq : quoted s = true) :
  Calls Tryz.prog 24 #[.string (bs s)] w fun e w' => e = .returned (pvRes (pvL s)) ∧ Keeps [] w w' := by
 have hpv : pvL s = if rvB ⟨2, 0, (s.take (s.length - 1)).drop 1⟩ then some ⟨2, 0, (s.take (s.length - 1)).drop 1⟩ else none := by
  unfold pvL pv0
  rw [if_pos hq]
 rw [hpv]
 unfold quoted at hq
 simp only [Bool.and_eq_true, decide_eq_true_eq] at hq
 obtain ⟨⟨h2, h0⟩, h1⟩ := hq
 have hk0 : 0 < (bs s).size := by rw [bs_size]; omega
 have g0 : ((bs s)[0]'hk0) = 39 := by
  rw [bs_get]
  rw [List.getD_eq_getElem?_getD, List.getElem?_eq_getElem (by omega)] at h0
  exact h0
 obtain ⟨k, hk, hk'⟩ : ∃ k, s.length - 1 = k ∧ k + 1 = s.length := ⟨s.length - 1, rfl, by omega⟩
 rw [hk] at h1 ⊢
 have hks : k < (bs s).size := by rw [bs_size]; omega
 have g1 : ((bs s)[k]'hks) = 39 := by
  rw [bs_get]
  rw [List.getD_eq_getElem?_getD, List.getElem?_eq_getElem (by omega)] at h1
  exact h1
 have e1 : (s.length : Int) - 1 = (k : Int) := by omega
 have l2 : (2 : Int) ≤ (s.length : Int) := by omega
 have l3 : (1 : Int) ≤ (k : Int) := by omega
 have l4 : (k : Int) < (s.length : Int) := by omega
 have hsl : ∀ W, (Instr.slice 9 (.string (bs s)) (some (.int .i64 1)) (some (.int .i64 (k : Int))) none).run Tryz.prog W = .ok (.string (bs ((s.take k).drop 1))) W := fun W => slice_str (P := Tryz.prog) Tryz.underlying9 s 1 k (by omega) (by omega) W
 have hrv := fun W => rightValue_any ⟨2, 0, (s.take k).drop 1⟩ W
 generalize (s.take k).drop 1 = u at *
 have hb39 : (((39 : UInt8).toNat : Int) == 39) = true := rfl
 clear h0 h1 h2 hk hpv
 have HK' := Lib.hid hk'
 clear hk'
 cases hr : rvB ⟨2, 0, u⟩ with
 | true =>
  rw [hr] at hrv
  have HRV := Lib.hid hrv
  clear hrv hr
  show Calls _ _ _ _ fun e w' => e = .returned (.tuple #[.agg #[.int .i64 2, .int .i64 0, .string (bs u)], .nilIface]) ∧ Keeps [] w w'
  go_enter Tryz.func24, Tryz.ntmps24
  go_wp2_with (go_at_call 8; refine (HRV.out _).mono ?_; rintro e w6 ⟨rfl, hk6⟩; have c0 := hk6.cell_of (p := ⟨w.heap.size, 0, none⟩) (v := .int .i64 0) (by simp) (by simp); have c1 := hk6.cell_of (p := ⟨w.heap.size, 1, none⟩) (v := .int .i64 0) (by simp) (by simp); have c2 := hk6.cell_of (p := ⟨w.heap.size, 2, none⟩) (v := .string ⟨#[]⟩) (by simp) (by simp); have f0 : w6.frozen? ⟨w.heap.size, 0, none⟩ = false := (hk6.frozen (p := ⟨w.heap.size, 0, none⟩) (by simp; omega) (by simp)).trans (by simp); have f1 : w6.frozen? ⟨w.heap.size, 1, none⟩ = false := (hk6.frozen (p := ⟨w.heap.size, 1, none⟩) (by simp; omega) (by simp)).trans (by simp); have f2 : w6.frozen? ⟨w.heap.size, 2, none⟩ = false := (hk6.frozen (p := ⟨w.heap.size, 2, none⟩) (by simp; omega) (by simp)).trans (by simp); have d0 := hk6.cell_of (p := ⟨w.heap.size + 1, 0, none⟩) (v := .int .i64 2) (by simp) (by simp); have d1 := hk6.cell_of (p := ⟨w.heap.size + 1, 1, none⟩) (v := .int .i64 0) (by simp) (by simp); have d2 := hk6.cell_of (p := ⟨w.heap.size + 1, 2, none⟩) (v := .string (bs u)) (by simp) (by simp))
  refine bodyPost_ret (v := .tuple #[.agg #[.int .i64 2, .int .i64 0, .string (bs u)], .nilIface]) (by simp [results, Tryz.results24, go_sem, c0, c1, c2]) rfl ⟨rfl, ?_⟩
  refine Keeps.setCell (Keeps.setCell (Keeps.setCell (Keeps.trans ?_ hk6) (.inr (Nat.le_refl _)) _) (.inr (Nat.le_refl _)) _) (.inr (Nat.le_refl _)) _
  repeat first | exact Keeps.refl _ _ | refine Keeps.alloc ?_ _ | refine Keeps.setCell ?_ (.inr (by simp)) _
 | false =>
  rw [hr] at hrv
  have HRV := Lib.hid hrv
  clear hrv hr
  show Calls _ _ _ _ fun e w' => e = .returned (.tuple #[.agg #[.int .i64 0, .int .i64 0, .string (bs [])], .iface 34 (.int .i64 3)]) ∧ Keeps [] w w'
  go_enter Tryz.func24, Tryz.ntmps24
  go_wp2_with (go_at_call 8; refine (HRV.out _).mono ?_; rintro e w6 ⟨rfl, hk6⟩; have c0 := hk6.cell_of (p := ⟨w.heap.size, 0, none⟩) (v := .int .i64 0) (by simp) (by simp); have c1 := hk6.cell_of (p := ⟨w.heap.size, 1, none⟩) (v := .int .i64 0) (by simp) (by simp); have c2 := hk6.cell_of (p := ⟨w.heap.size, 2, none⟩) (v := .string ⟨#[]⟩) (by simp) (by simp); have f0 : w6.frozen? ⟨w.heap.size, 0, none⟩ = false := (hk6.frozen (p := ⟨w.heap.size, 0, none⟩) (by simp; omega) (by simp)).trans (by simp); have f1 : w6.frozen? ⟨w.heap.size, 1, none⟩ = false := (hk6.frozen (p := ⟨w.heap.size, 1, none⟩) (by simp; omega) (by simp)).trans (by simp); have f2 : w6.frozen? ⟨w.heap.size, 2, none⟩ = false := (hk6.frozen (p := ⟨w.heap.size, 2, none⟩) (by simp; omega) (by simp)).trans (by simp); have d0 := hk6.cell_of (p := ⟨w.heap.size + 1, 0, none⟩) (v := .int .i64 2) (by simp) (by simp); have d1 := hk6.cell_of (p := ⟨w.heap.size + 1, 1, none⟩) (v := .int .i64 0) (by simp) (by simp); have d2 := hk6.cell_of (p := ⟨w.heap.size + 1, 2, none⟩) (v := .string (bs u)) (by simp) (by simp))
  refine bodyPost_ret (v := .tuple #[.agg #[.int .i64 0, .int .i64 0, .string (bs [])], .iface 34 (.int .i64 3)]) (by simp [results, Tryz.results24, go_sem, c0, c1, c2]; try rfl) rfl ⟨rfl, ?_⟩
  refine Keeps.setCell (Keeps.setCell (Keeps.setCell (Keeps.trans ?_ hk6) (.inr (Nat.le_refl _)) _) (.inr (Nat.le_refl _)) _) (.inr (Nat.le_refl _)) _
  repeat first | exact Keeps.refl _ _ | refine Keeps.alloc ?_ _ | refine Keeps.setCell ?_ (.inr (by simp)) _
theorem not_quoted {s : Bs} (h : quoted s = false) : s.length < 2 ∨ (∃ h0 : 0 < (bs s).size, (2 : Int) ≤ (s.length : Int) ∧ ((((bs s)[0]'h0).toNat : Int) == 39) = false) ∨
  (∃ (h0 : 0 < (bs s).size) (k : Nat) (hk : k < (bs s).size), (2 : Int) ≤ (s.length : Int) ∧ (s.length : Int) - 1 = (k : Int) ∧ ((((bs s)[0]'h0).toNat : Int) == 39) = true ∧ ((((bs s)[k]'hk).toNat : Int) == 39) = false) := by
 by_cases h2 : s.length < 2
 ·exact .inl h2
 ·right
  have h0 : 0 < (bs s).size := by rw [bs_size]; omega
  have key : ∀ (k : Nat) (hk : k < (bs s).size), ((((bs s)[k]'hk).toNat : Int) == 39) = decide (s.getD k 0 = 39) := fun k hk => by
   have hk' : k < s.length := by rw [bs_size] at hk; exact hk
   rw [bs_get, List.getD_eq_getElem?_getD, List.getElem?_eq_getElem hk', Option.getD_some, Bool.eq_iff_iff, beq_iff_eq, decide_eq_true_iff]
   constructor
   ·intro h; exact UInt8.toNat_inj.1 (by have : (39 : UInt8).toNat = 39 := rfl; omega)
   ·intro h; rw [h]; rfl
  unfold quoted at h
  rw [decide_eq_true (show 2 ≤ s.length by omega), Bool.true_and, Bool.and_eq_false_iff] at h
  by_cases e0 : s.getD 0 0 = 39
  ·right
   have hk : s.length - 1 < (bs s).size := by rw [bs_size]; omega
   refine ⟨h0, s.length - 1, hk, by omega, by omega, by rw [key, decide_eq_true e0], ?_⟩
   rw [key]
   rcases h with h | h
   ·rw [decide_eq_true e0] at h; cases h
   ·exact h
  ·left
   exact ⟨h0, by omega, by rw [key, decide_eq_false e0]⟩
set_option maxRecDepth 100000 in
set_option maxHeartbeats 8000000 in
theorem pval_plain (s : Bs) (hs : s.length ≤ 1000000000) (w : World) (hE : TEnv w) (hq : quoted s = false) :
  Calls Tryz.prog 24 #[.string (bs s)] w fun e w' => e = .returned (pvRes (pvL s)) ∧ Keeps [] w w' := by
 have hpv : pvL s = match (match Lib.atoiAll s with | .ok n => if Lib.itoa n = s then some (⟨1, n, []⟩ : Vl) else none | _ => none) with | some v => if rvB v then some v else none | none => none := by
  unfold pvL pv0
  rw [hq]; rfl
 have hat := fun W (q : Keeps [] w W) => atoi_any s hs W (hE.quiet q)
 have HE := Lib.hid hE
 have HQ := Lib.hid (not_quoted hq)
 clear hE hq
 have HK0 := Lib.hid (((Keeps.refl [] w).alloc (.cells #[.int .i64 0, .int .i64 0, .string ⟨#[]⟩] 27)).alloc (.cells #[.int .i64 2, .int .i64 0, .string ⟨#[]⟩] 27))
 have HB0 := Lib.hid ((Blk.new w 27 #[.int .i64 0, .int .i64 0, .string ⟨#[]⟩]).alloc (.cells #[.int .i64 2, .int .i64 0, .string ⟨#[]⟩] 27))
 have hb1 := Blk.new (w.alloc (.cells #[.int .i64 0, .int .i64 0, .string ⟨#[]⟩] 27)) 27 #[.int .i64 2, .int .i64 0, .string ⟨#[]⟩]
 rw [show (w.alloc (.cells #[.int .i64 0, .int .i64 0, .string ⟨#[]⟩] 27)).heap.size = w.heap.size + 1 from Array.size_push _] at hb1
 have HB1 := Lib.hid hb1
 clear hb1
 rcases ha : Lib.atoiAll s with n | _ | _
 ·
  rw [ha] at hpv
  have hno := atoi_ok ha
  have hat2 : ∀ W (_ : Keeps [] w W), Calls Tryz.prog 65 #[.string (bs s)] W fun e w' => e = .returned (.tuple #[.int .i64 n, .nilIface]) ∧ Keeps [] W w' := fun W q => by
   rcases hat W q with ⟨v, h1, h2, h3⟩ | ⟨h1, h3⟩
   ·rw [ha] at h1; injection h1 with h1; subst h1; exact h3
   ·exact absurd ha (h1 n)
  have hit : ∀ W (_ : Keeps [] w W), Calls Tryz.prog 57 #[.int .i64 n] W fun e w' => e = .returned (.string (bs (Lib.itoa n))) ∧ Keeps [] W w' := fun W q => by
   refine (Tryz.strconv_Itoa n hno.1 hno.2 W (HE.out.quiet q).p10).mono ?_
   rintro e w' ⟨rfl, k2, os, rfl⟩
   exact ⟨rfl, ((Keeps.refl _ _).drewN _).trans (keeps_grow _ _)⟩
  have HAT := Lib.hid hat2
  have HIT := Lib.hid hit
  clear hat hat2 hit ha hno
  by_cases hi : Lib.itoa n = s
  ·have hpv2 : pvL s = if rvB ⟨1, n, []⟩ then some ⟨1, n, []⟩ else none := by rw [hpv]; simp only [if_pos hi]
   rw [hpv2]
   have hrv := fun W => rightValue_any ⟨1, n, []⟩ W
   have hbe : (Lib.itoa n == s) = true := by rw [beq_iff_eq]; exact hi
   clear hpv hpv2 hi
   cases hr : rvB ⟨1, n, []⟩ with
   | true =>
    rw [hr] at hrv
    have HRV := Lib.hid hrv
    clear hrv hr
    show Calls _ _ _ _ fun e w' => e = .returned (.tuple #[.agg #[.int .i64 1, .int .i64 n, .string (bs [])], .nilIface]) ∧ Keeps [] w w'
    rcases HQ.out with l2 | ⟨h0, l2, b0⟩ | ⟨h0, k, hk, l2, e1, b0, b1⟩
    all_goals
     go_enter Tryz.func24, Tryz.ntmps24
     go_wp2_with (first | (go_at_call 65; refine (HAT.out _ HK0.out).mono ?_; rintro e w6 ⟨rfl, hk6⟩) | (go_at_call 57; refine (HIT.out _ (HK0.out.trans hk6)).mono ?_; rintro e w7 ⟨rfl, hk7⟩; have B0 := (HB0.out.keep hk6 (by simp)).keep hk7 (by simp); have B1 := (HB1.out.keep hk6 (by simp)).keep hk7 (by simp); have c0 : w7.cell? ⟨w.heap.size, 0, none⟩ = some (.int .i64 0) := B0.cell 0; have c1 : w7.cell? ⟨w.heap.size, 1, none⟩ = some (.int .i64 0) := B0.cell 1; have c2 : w7.cell? ⟨w.heap.size, 2, none⟩ = some (.string ⟨#[]⟩) := B0.cell 2; have f0 := B0.frozen 0; have f1 := B0.frozen 1; have f2 := B0.frozen 2; have d0 : w7.cell? ⟨w.heap.size + 1, 0, none⟩ = some (.int .i64 2) := B1.cell 0; have d1 : w7.cell? ⟨w.heap.size + 1, 1, none⟩ = some (.int .i64 0) := B1.cell 1; have d2 : w7.cell? ⟨w.heap.size + 1, 2, none⟩ = some (.string ⟨#[]⟩) := B1.cell 2; have g0 := B1.frozen 0; have g1 := B1.frozen 1; have g2 := B1.frozen 2) | (go_at_call 8; refine (HRV.out _).mono ?_; rintro e w8 ⟨rfl, hk8⟩; have B0' := ((((B0.far (p := ⟨w.heap.size + 1, 0, none⟩) (by simp) (.int .i64 1)).far (p := ⟨w.heap.size + 1, 1, none⟩) (by simp) (.int .i64 n)).far (p := ⟨w.heap.size + 1, 2, none⟩) (by simp) (.string ⟨#[]⟩)).keep hk8 (by simp)); have x0 : w8.cell? ⟨w.heap.size, 0, none⟩ = some (.int .i64 0) := B0'.cell 0; have x1 : w8.cell? ⟨w.heap.size, 1, none⟩ = some (.int .i64 0) := B0'.cell 1; have x2 : w8.cell? ⟨w.heap.size, 2, none⟩ = some (.string ⟨#[]⟩) := B0'.cell 2; have y0 := B0'.frozen 0; have y1 := B0'.frozen 1; have y2 := B0'.frozen 2; have z := (((B1.set 0 (.int .i64 1)).set 1 (.int .i64 n)).set 2 (.string ⟨#[]⟩)).keep hk8 (by simp); have z0 : w8.cell? ⟨w.heap.size + 1, 0, none⟩ = some (.int .i64 1) := z.cell 0; have z1 : w8.cell? ⟨w.heap.size + 1, 1, none⟩ = some (.int .i64 n) := z.cell 1; have z2 : w8.cell? ⟨w.heap.size + 1, 2, none⟩ = some (.string ⟨#[]⟩) := z.cell 2))
     refine bodyPost_ret (v := .tuple #[.agg #[.int .i64 1, .int .i64 n, .string (bs [])], .nilIface]) (by simp [results, Tryz.results24, go_sem, x0, x1, x2]; try rfl) rfl ⟨rfl, ?_⟩
     refine Keeps.setCell (Keeps.setCell (Keeps.setCell ?_ (.inr (Nat.le_refl _)) _) (.inr (Nat.le_refl _)) _) (.inr (Nat.le_refl _)) _
     exact Keeps.trans (Keeps.setCell (Keeps.setCell (Keeps.setCell ((HK0.out.trans hk6).trans hk7) (.inr (Nat.le_succ _)) _) (.inr (Nat.le_succ _)) _) (.inr (Nat.le_succ _)) _) hk8
   | false =>
    rw [hr] at hrv
    have HRV := Lib.hid hrv
    clear hrv hr
    show Calls _ _ _ _ fun e w' => e = .returned (.tuple #[.agg #[.int .i64 0, .int .i64 0, .string (bs [])], .iface 34 (.int .i64 3)]) ∧ Keeps [] w w'
    rcases HQ.out with l2 | ⟨h0, l2, b0⟩ | ⟨h0, k, hk, l2, e1, b0, b1⟩
    all_goals
     go_enter Tryz.func24, Tryz.ntmps24
     go_wp2_with (first | (go_at_call 65; refine (HAT.out _ HK0.out).mono ?_; rintro e w6 ⟨rfl, hk6⟩) | (go_at_call 57; refine (HIT.out _ (HK0.out.trans hk6)).mono ?_; rintro e w7 ⟨rfl, hk7⟩; have B0 := (HB0.out.keep hk6 (by simp)).keep hk7 (by simp); have B1 := (HB1.out.keep hk6 (by simp)).keep hk7 (by simp); have c0 : w7.cell? ⟨w.heap.size, 0, none⟩ = some (.int .i64 0) := B0.cell 0; have c1 : w7.cell? ⟨w.heap.size, 1, none⟩ = some (.int .i64 0) := B0.cell 1; have c2 : w7.cell? ⟨w.heap.size, 2, none⟩ = some (.string ⟨#[]⟩) := B0.cell 2; have f0 := B0.frozen 0; have f1 := B0.frozen 1; have f2 := B0.frozen 2; have d0 : w7.cell? ⟨w.heap.size + 1, 0, none⟩ = some (.int .i64 2) := B1.cell 0; have d1 : w7.cell? ⟨w.heap.size + 1, 1, none⟩ = some (.int .i64 0) := B1.cell 1; have d2 : w7.cell? ⟨w.heap.size + 1, 2, none⟩ = some (.string ⟨#[]⟩) := B1.cell 2; have g0 := B1.frozen 0; have g1 := B1.frozen 1; have g2 := B1.frozen 2) | (go_at_call 8; refine (HRV.out _).mono ?_; rintro e w8 ⟨rfl, hk8⟩; have B0' := ((((B0.far (p := ⟨w.heap.size + 1, 0, none⟩) (by simp) (.int .i64 1)).far (p := ⟨w.heap.size + 1, 1, none⟩) (by simp) (.int .i64 n)).far (p := ⟨w.heap.size + 1, 2, none⟩) (by simp) (.string ⟨#[]⟩)).keep hk8 (by simp)); have x0 : w8.cell? ⟨w.heap.size, 0, none⟩ = some (.int .i64 0) := B0'.cell 0; have x1 : w8.cell? ⟨w.heap.size, 1, none⟩ = some (.int .i64 0) := B0'.cell 1; have x2 : w8.cell? ⟨w.heap.size, 2, none⟩ = some (.string ⟨#[]⟩) := B0'.cell 2; have y0 := B0'.frozen 0; have y1 := B0'.frozen 1; have y2 := B0'.frozen 2; have z := (((B1.set 0 (.int .i64 1)).set 1 (.int .i64 n)).set 2 (.string ⟨#[]⟩)).keep hk8 (by simp); have z0 : w8.cell? ⟨w.heap.size + 1, 0, none⟩ = some (.int .i64 1) := z.cell 0; have z1 : w8.cell? ⟨w.heap.size + 1, 1, none⟩ = some (.int .i64 n) := z.cell 1; have z2 : w8.cell? ⟨w.heap.size + 1, 2, none⟩ = some (.string ⟨#[]⟩) := z.cell 2))
     refine bodyPost_ret (v := .tuple #[.agg #[.int .i64 0, .int .i64 0, .string (bs [])], .iface 34 (.int .i64 3)]) (by simp [results, Tryz.results24, go_sem, x0, x1, x2]; try rfl) rfl ⟨rfl, ?_⟩
     refine Keeps.setCell (Keeps.setCell (Keeps.setCell ?_ (.inr (Nat.le_refl _)) _) (.inr (Nat.le_refl _)) _) (.inr (Nat.le_refl _)) _
     exact Keeps.trans (Keeps.setCell (Keeps.setCell (Keeps.setCell ((HK0.out.trans hk6).trans hk7) (.inr (Nat.le_succ _)) _) (.inr (Nat.le_succ _)) _) (.inr (Nat.le_succ _)) _) hk8
  ·have hpv2 : pvL s = none := by rw [hpv]; simp only [if_neg hi]
   rw [hpv2]
   have hbe : (Lib.itoa n == s) = false := by rw [beq_eq_false_iff_ne]; exact hi
   clear hpv hpv2 hi
   show Calls _ _ _ _ fun e w' => e = .returned (.tuple #[.agg #[.int .i64 0, .int .i64 0, .string (bs [])], .iface 34 (.int .i64 3)]) ∧ Keeps [] w w'
   rcases HQ.out with l2 | ⟨h0, l2, b0⟩ | ⟨h0, k, hk, l2, e1, b0, b1⟩
   all_goals
    go_enter Tryz.func24, Tryz.ntmps24
    go_wp2_with (first | (go_at_call 65; refine (HAT.out _ HK0.out).mono ?_; rintro e w6 ⟨rfl, hk6⟩) | (go_at_call 57; refine (HIT.out _ (HK0.out.trans hk6)).mono ?_; rintro e w7 ⟨rfl, hk7⟩; have B0 := (HB0.out.keep hk6 (by simp)).keep hk7 (by simp); have B1 := (HB1.out.keep hk6 (by simp)).keep hk7 (by simp); have c0 : w7.cell? ⟨w.heap.size, 0, none⟩ = some (.int .i64 0) := B0.cell 0; have c1 : w7.cell? ⟨w.heap.size, 1, none⟩ = some (.int .i64 0) := B0.cell 1; have c2 : w7.cell? ⟨w.heap.size, 2, none⟩ = some (.string ⟨#[]⟩) := B0.cell 2; have f0 := B0.frozen 0; have f1 := B0.frozen 1; have f2 := B0.frozen 2; have d0 : w7.cell? ⟨w.heap.size + 1, 0, none⟩ = some (.int .i64 2) := B1.cell 0; have d1 : w7.cell? ⟨w.heap.size + 1, 1, none⟩ = some (.int .i64 0) := B1.cell 1; have d2 : w7.cell? ⟨w.heap.size + 1, 2, none⟩ = some (.string ⟨#[]⟩) := B1.cell 2; have g0 := B1.frozen 0; have g1 := B1.frozen 1; have g2 := B1.frozen 2))
    refine bodyPost_ret (v := .tuple #[.agg #[.int .i64 0, .int .i64 0, .string (bs [])], .iface 34 (.int .i64 3)]) (by simp [results, Tryz.results24, go_sem, c0, c1, c2]; try rfl) rfl ⟨rfl, ?_⟩
    refine Keeps.setCell (Keeps.setCell (Keeps.setCell ?_ (.inr (Nat.le_refl _)) _) (.inr (Nat.le_refl _)) _) (.inr (Nat.le_refl _)) _
    exact (HK0.out.trans hk6).trans hk7
 ·
  rw [ha] at hpv
  have hpv2 : pvL s = none := hpv
  rw [hpv2]
  have hat2 : ∀ W (_ : Keeps [] w W), Calls Tryz.prog 65 #[.string (bs s)] W fun e w' => (∃ n t p, e = .returned (.tuple #[.int .i64 n, .iface t p])) ∧ Keeps [] W w' := fun W q => by
   rcases hat W q with ⟨v, h1, h2, h3⟩ | ⟨h1, h3⟩
   ·rw [ha] at h1; cases h1
   ·exact h3
  have HAT := Lib.hid hat2
  clear hat hat2 hpv hpv2 ha
  show Calls _ _ _ _ fun e w' => e = .returned (.tuple #[.agg #[.int .i64 0, .int .i64 0, .string (bs [])], .iface 34 (.int .i64 3)]) ∧ Keeps [] w w'
  rcases HQ.out with l2 | ⟨h0, l2, b0⟩ | ⟨h0, k, hk, l2, e1, b0, b1⟩
  all_goals
   go_enter Tryz.func24, Tryz.ntmps24
   go_wp2_with (first | (go_at_call 65; refine (HAT.out _ HK0.out).mono ?_; rintro e w6 ⟨⟨n, t, p, rfl⟩, hk6⟩; have B0 := (HB0.out.keep hk6 (by simp)); have c0 : w6.cell? ⟨w.heap.size, 0, none⟩ = some (.int .i64 0) := B0.cell 0; have c1 : w6.cell? ⟨w.heap.size, 1, none⟩ = some (.int .i64 0) := B0.cell 1; have c2 : w6.cell? ⟨w.heap.size, 2, none⟩ = some (.string ⟨#[]⟩) := B0.cell 2; have f0 := B0.frozen 0; have f1 := B0.frozen 1; have f2 := B0.frozen 2))
   refine bodyPost_ret (v := .tuple #[.agg #[.int .i64 0, .int .i64 0, .string (bs [])], .iface 34 (.int .i64 3)]) (by simp [results, Tryz.results24, go_sem, c0, c1, c2]; try rfl) rfl ⟨rfl, ?_⟩
   refine Keeps.setCell (Keeps.setCell (Keeps.setCell ?_ (.inr (Nat.le_refl _)) _) (.inr (Nat.le_refl _)) _) (.inr (Nat.le_refl _)) _
   exact HK0.out.trans hk6
 ·
  rw [ha] at hpv
  have hpv2 : pvL s = none := hpv
  rw [hpv2]
  have hat2 : ∀ W (_ : Keeps [] w W), Calls Tryz.prog 65 #[.string (bs s)] W fun e w' => (∃ n t p, e = .returned (.tuple #[.int .i64 n, .iface t p])) ∧ Keeps [] W w' := fun W q => by
   rcases hat W q with ⟨v, h1, h2, h3⟩ | ⟨h1, h3⟩
   ·rw [ha] at h1; cases h1
   ·exact h3
  have HAT := Lib.hid hat2
  clear hat hat2 hpv hpv2 ha
  show Calls _ _ _ _ fun e w' => e = .returned (.tuple #[.agg #[.int .i64 0, .int .i64 0, .string (bs [])], .iface 34 (.int .i64 3)]) ∧ Keeps [] w w'
  rcases HQ.out with l2 | ⟨h0, l2, b0⟩ | ⟨h0, k, hk, l2, e1, b0, b1⟩
  all_goals
   go_enter Tryz.func24, Tryz.ntmps24
   go_wp2_with (first | (go_at_call 65; refine (HAT.out _ HK0.out).mono ?_; rintro e w6 ⟨⟨n, t, p, rfl⟩, hk6⟩; have B0 := (HB0.out.keep hk6 (by simp)); have c0 : w6.cell? ⟨w.heap.size, 0, none⟩ = some (.int .i64 0) := B0.cell 0; have c1 : w6.cell? ⟨w.heap.size, 1, none⟩ = some (.int .i64 0) := B0.cell 1; have c2 : w6.cell? ⟨w.heap.size, 2, none⟩ = some (.string ⟨#[]⟩) := B0.cell 2; have f0 := B0.frozen 0; have f1 := B0.frozen 1; have f2 := B0.frozen 2))
   refine bodyPost_ret (v := .tuple #[.agg #[.int .i64 0, .int .i64 0, .string (bs [])], .iface 34 (.int .i64 3)]) (by simp [results, Tryz.results24, go_sem, c0, c1, c2]; try rfl) rfl ⟨rfl, ?_⟩
   refine Keeps.setCell (Keeps.setCell (Keeps.setCell ?_ (.inr (Nat.le_refl _)) _) (.inr (Nat.le_refl _)) _) (.inr (Nat.le_refl _)) _
   exact HK0.out.trans hk6
theorem parseValue_any (s : Bs) (hs : s.length ≤ 1000000000) (w : World) (hE : TEnv w) :
  Calls Tryz.prog 24 #[.string (bs s)] w fun e w' => e = .returned (pvRes (pvL s)) ∧ Keeps [] w w' := by
 cases hq : quoted s with
 | true => exact pval_quoted s hs w hq
 | false => exact pval_plain s hs w hE hq
end Go.Proofs.YtpagiajlefejcaaGreatDoor
