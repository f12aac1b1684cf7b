/- pick. PlanTurns: its walk. The frame of a law: arguments opened as lists, the handle of the type error. -/
import Derived.Test.YtnjjajanfedjiaaGreatDoorProg
import Derived.Test.YtnjjajanfedjiaaGreatDoorPtuM1
import Derived.Test.YtnjjajanfedjiaaGreatDoorPtuM35
import Derived.Test.YtnjjajanfedjiaaGreatDoorRows
import Derived.WalkKit
import Derived.ProofKit
import Derived.OpenShut
import Derived.ShutString
import Derived.ChangeOld
import Derived.ChangeSlices
import Derived.SliceStrings
import Derived.Deep.Slices
import Derived.Carry
import Derived.Handed
import Derived.LaidLaws
import Derived.LaidHandle
import Derived.JoinedOf
import Derived.Stop.Joined
set_option linter.unusedSimpArgs false
set_option linter.unusedVariables false
namespace Go.Proofs.YtnjjajanfedjiaaGreatDoor
open Go.RowKit
def pickN (a : Int) (n : Nat) : Nat := (a.emod 18446744073709551616).toNat % n
theorem pickN_lt (a : Int) {n : Nat} (h : 0 < n) : pickN a n < n := Nat.mod_lt _ h
theorem pick_val (a : Int) (n : Nat) (h1 : n ≤ 4294967296) (h0 : 0 < n) : wrap64 ((IntKind.u64.wrap a).tmod (n : Int)) = (pickN a n : Int) := by
 have e : IntKind.u64.wrap a = ((a.emod 18446744073709551616).toNat : Int) := by
  rw [IntKind.wrap_u64]
  have := Int.emod_nonneg a (show (18446744073709551616 : Int) ≠ 0 by decide)
  exact (Int.toNat_of_nonneg this).symm
 have hl := pickN_lt a h0
 rw [e, Int.tmod_eq_emod_of_nonneg (Int.natCast_nonneg _)]
 show wrap64 ((pickN a n : Nat) : Int) = _
 exact IntWalk.wrap64_in _ ⟨by omega, by omega⟩
set_option maxRecDepth 100000 in
theorem pick_any (a : Int) (n : Nat) (h0 : 0 < n) (h1 : n ≤ 4294967296) (w : World) :
  Calls Tryz.prog 20 #[.int .i64 a, .int .i64 (n : Int)] w fun e w' => e = .returned (.int .i64 (pickN a n)) ∧ w = w' := by
 have hz : ¬ (n : Int) = 0 := by omega
 have hv := Lib.hid (pick_val a n h1 h0)
 go_enter Tryz.func20, Tryz.ntmps20
 go_wp2
 go_ret
 exact ⟨by rw [← hv.out]; rfl, rfl⟩
end Go.Proofs.YtnjjajanfedjiaaGreatDoor
namespace Go.Proofs.YtnjjajanfedjiaaGreatDoor
open Go.RowKit Go.BigFrame
attribute [local go_sem] bs_size bs_extract bs_append bs_toList KW.cell
def turnF (f : Fl) (k : Nat) : Fl := ⟨f.ins, f.jobs.drop k ++ f.jobs.take k, f.outs⟩
theorem turn_perm (f : Fl) (k : Nat) : (turnF f k).jobs.Perm f.jobs := by
 show (f.jobs.drop k ++ f.jobs.take k).Perm f.jobs
 have h := List.perm_append_comm (l₁ := f.jobs.drop k) (l₂ := f.jobs.take k)
 rwa [List.take_append_drop] at h
theorem turn_FlW {f : Fl} (h : FlW f) (k : Nat) : FlW (turnF f k) := ⟨h.nins, by rw [(turn_perm f k).length_eq]; exact h.njobs, h.nouts, h.ins, fun j hj => h.jobs j ((turn_perm f k).mem_iff.1 hj), h.outs⟩
def PtFin (y : World) (f : Fl) (k : Nat) (us : List (List Value)) (G : Nat) (v0 v2 : Value) (w' : World) : Prop :=
 ∃ base A c, Keeps [G] y w' ∧ Blk w' G 26 #[v0, .slice A (f.jobs.length - k + k) c, v2] ∧ w'.ownsRow base 45 15 (.slice A (f.jobs.length - k + k) c) (f.jobs.length - k + k) ((us.drop k).flatten ++ (us.take k).flatten)
structure PtW (y : World) (f : Fl) (k : Nat) (us : List (List Value)) (G : Nat) (v0 v2 : Value) (g : Option Addr × Nat × Option Addr × Nat) (L : Nat → Bool) (w' : World) : Prop where
 d9 : L 9 = true → L 4 = true
 d11 : L 11 = true → PtFin y f k us G v0 v2 w'
 all : L 11 = true → ∀ j, j < 11 → L j = true
 pre : L 11 = false → Keeps [] y w' ∧ (L 4 = true → L 9 = false → ∃ base, (y.heap.size ≤ base ∧ base ≤ w'.heap.size) ∧ w'.ownsRow base 45 15 (.slice g.1 (f.jobs.length - k) g.2.1) (f.jobs.length - k) (us.drop k).flatten) ∧
  (L 9 = true → ∃ base, y.heap.size ≤ base ∧ w'.ownsRow base 45 15 (.slice g.2.2.1 (f.jobs.length - k + k) g.2.2.2) (f.jobs.length - k + k) ((us.drop k).flatten ++ (us.take k).flatten))
section
variable {y : World} {f : Fl} {k : Nat} {us : List (List Value)} {G : Nat} {v0 v2 : Value} {g : Option Addr × Nat × Option Addr × Nat} {L : Nat → Bool} {w' w'' : World} {A : Option Addr} {c : Nat}
theorem PtW.n11 (h : PtW y f k us G v0 v2 g L w') {i : Nat} (hL : L i = false) (hi : i < 11) : L 11 = false := by
 cases hx : L 11 with
 | false => rfl
 | true => rw [h.all hx i hi] at hL; cases hL
theorem PtW.far (h : PtW y f k us G v0 v2 g L w') {i : Nat} (h4 : i ≠ 4) (h9 : i ≠ 9) (h11 : i ≠ 11) : PtW y f k us G v0 v2 g (updL L i) w' := by
 have e : ∀ j, i ≠ j → updL L i j = L j := fun j hj => by unfold updL; rw [if_neg (Ne.symm hj)]
 refine ⟨fun h' => ?_, fun h' => ?_, fun h' j hj => ?_, fun h' => ?_⟩
 ·rw [e 9 h9] at h'
  rw [e 4 h4]
  exact h.d9 h'
 ·rw [e 11 h11] at h'
  exact h.d11 h'
 ·rw [e 11 h11] at h'
  have := h.all h' j hj
  unfold updL
  split
  ·rfl
  ·exact this
 ·rw [e 11 h11] at h'
  rw [e 4 h4, e 9 h9]
  exact h.pre h'
theorem PtW.b4 (h : PtW y f k us G v0 v2 g L w') (hL : L 4 = false) (h11 : L 11 = false) (hk : Keeps [] w' w'') (ho : w''.ownsRow w'.heap.size 45 15 (.slice A (f.jobs.length - k) c) (f.jobs.length - k) (us.drop k).flatten) : PtW y f k us G v0 v2 (A, c, g.2.2) (updL L 4) w'' := by
 have e : ∀ j, 4 ≠ j → updL L 4 j = L j := fun j hj => by unfold updL; rw [if_neg (Ne.symm hj)]
 have no : L 9 = true → False := fun hj' => by rw [h.d9 hj'] at hL; cases hL
 obtain ⟨k1, _, _⟩ := h.pre h11
 refine ⟨fun h' => ?_, fun h' => ?_, fun h' => ?_, fun _ => ⟨k1.trans hk, fun _ _ => ⟨_, ⟨k1.size, hk.size⟩, ho⟩, fun h' => ?_⟩⟩
 ·rw [e 9 (by decide)] at h'; exact (no h').elim
 ·rw [e 11 (by decide), h11] at h'; cases h'
 ·rw [e 11 (by decide), h11] at h'; cases h'
 ·rw [e 9 (by decide)] at h'; exact (no h').elim
theorem PtW.b9 (h : PtW y f k us G v0 v2 g L w') (_hL : L 9 = false) (h4 : L 4 = true) (h11 : L 11 = false) {base : Nat} (ho : w''.ownsRow base 45 15 (.slice A (f.jobs.length - k + k) c) (f.jobs.length - k + k) ((us.drop k).flatten ++ (us.take k).flatten)) {row : Option Nat} (hg : w'.grownBy w'' row) (hge : ∀ x, row = some x → y.heap.size ≤ x) (hb : y.heap.size ≤ base) : PtW y f k us G v0 v2 (g.1, g.2.1, A, c) (updL L 9) w'' := by
 have e : ∀ j, 9 ≠ j → updL L 9 j = L j := fun j hj => by unfold updL; rw [if_neg (Ne.symm hj)]
 obtain ⟨k1, _, _⟩ := h.pre h11
 refine ⟨fun h' => ?_, fun h' => ?_, fun h' => ?_, fun _ => ⟨k1.grown hg (fun x hx => .inr (hge x hx)), fun _ h' => ?_, fun _ => ⟨_, hb, ho⟩⟩⟩
 ·rw [e 4 (by decide)]; exact h4
 ·rw [e 11 (by decide), h11] at h'; cases h'
 ·rw [e 11 (by decide), h11] at h'; cases h'
 ·cases h'
end
theorem sliceJ_from (b o n d lo : Nat) (h1 : lo < n) (h2 : n ≤ d) (W : World) : (Instr.slice 23 (.slice (some ⟨b, o, none⟩) n d) (some (.int .i64 (lo : Int))) none none).run Tryz.prog W = .ok (.slice (some ⟨b, o + lo * 15, none⟩) (n - lo) (d - lo)) W := by
 have hT := Tryz.underlying23
 have hl0 : (0 : Int) ≤ (lo : Int) := by omega
 have hl1 : (lo : Int) ≤ (n : Int) := by omega
 have hl2 : (n : Int) ≤ (d : Int) := by omega
 have hl3 : lo < d := by omega
 have hl4 : ((n : Int) - (lo : Int)).toNat = n - lo := by omega
 have hl5 : ((d : Int) - (lo : Int)).toNat = d - lo := by omega
 go_simp
 exact fun e => absurd e (by omega)
theorem sliceJ_to (b o n d hi : Nat) (h1 : hi ≤ n) (h2 : n ≤ d) (W : World) : (Instr.slice 23 (.slice (some ⟨b, o, none⟩) n d) none (some (.int .i64 (hi : Int))) none).run Tryz.prog W = .ok (.slice (some ⟨b, o, none⟩) hi d) W := by
 have hT := Tryz.underlying23
 have hl0 : (0 : Int) ≤ (hi : Int) := by omega
 have hl1 : (hi : Int) ≤ (d : Int) := by omega
 go_simp
theorem sliceI_to (A : Option Addr) (n d hi : Nat) (h1 : hi ≤ n) (h2 : n ≤ d) (W : World) : (Instr.slice 55 (.slice A n d) none (some (.int .i64 (hi : Int))) none).run Tryz.prog W = .ok (.slice A hi d) W := by
 have hT := Tryz.underlying55
 have hl0 : (0 : Int) ≤ (hi : Int) := by omega
 have hl1 : (hi : Int) ≤ (d : Int) := by omega
 cases A with
 | none => go_simp
 | some a => go_simp
theorem rdN_take {W : World} {A : Option Addr} {n j : Nat} {l : List Nat} (h : Rd W [] 1 A n (natsV l)) (hn : l.length = n) (hj : j ≤ n) : Rd W [] 1 A j (natsV (l.take j)) := by
 refine ⟨by simp [natsV, intsN]; omega, fun h0 => ?_⟩
 obtain ⟨ad, e, hb, hl, hc⟩ := h.2 (by omega)
 refine ⟨ad, e, hb, hl, fun i u hi => hc i u ?_⟩
 unfold natsV intsN at hi ⊢
 rw [List.map_take, List.map_take, List.getElem?_take] at hi
 split at hi
 ·exact hi
 ·cases hi
theorem nodup_fresh {l : List Nat} (h : l.Nodup) (j : Nat) (hj : j < l.length) : (l.take j).contains l[j] = false := by
 have hn : ¬ l[j] ∈ l.take j := fun hm => by
  obtain ⟨i, hi, e⟩ := List.getElem_of_mem hm
  rw [List.getElem_take] at e
  have h1 := (List.getElem_inj h).1 e
  rw [List.length_take] at hi
  omega
 simpa using hn
set_option maxRecDepth 100000 in
set_option maxHeartbeats 16000000 in
theorem ptu_t (s : Bs) (nb : Int) (w : World) (hE : FEnv w) (hO : CEnv w) (hT : ErrTy w) :
  Calls Tryz.prog 5 #[.string (bs s), .int .i64 nb] w fun e w' => e = .returned (.bool true) ∧ Keeps [] w w' := by
 have HE := Lib.hid hE
 have HO := Lib.hid hO
 have HT := Lib.hid hT
 have HPL := Lib.hid (planned_any w hE hO hT)
 clear hE hO hT
 have HR := Lib.hid (fun W (z : Keeps [] w W) => kright_any s W (HE.out.quiet z) (HO.out.quiet z) (HT.out.keep z (by simp)))
 obtain ⟨R, hR⟩ : ∃ R, rightP s = R := ⟨_, rfl⟩
 rw [hR] at HR
 have HRR := Lib.hid hR
 clear hR
 go_enter Tryz.func5, Tryz.ntmps5
 go_wp2_with fail
 refine HPL.out.mono ?_
 rintro e w1 ⟨rfl, k1⟩
 go_wp2_with fail
 refine (HR.out _ k1).mono ?_
 rintro e w2 ⟨ro, k2⟩
 have HK2 := Lib.hid (k1.trans k2)
 clear k1 k2 HPL HR
 rcases hr : R with _ | f
 ·rw [hr] at ro
  obtain ⟨A0, n0, c0, A1, n1, c1, A2, n2, c2, rfl⟩ := ro
  clear hr
  go_wp2
  go_ret
  exact ⟨rfl, HK2.out.alloc _⟩
 rw [hr] at ro HRR
 obtain ⟨base, A0, c0, A1, c1, A2, c2, rfl, hfa⟩ := ro
 obtain ⟨hs1, hp, m, hcm⟩ := right_some HRR.out
 have hfw := (parseF_o (by omega) hp).1
 have HW := Lib.hid hfw
 have HCM := Lib.hid hcm
 have HFI := Lib.hid (hfa.flIn hfw)
 clear hr hfa hp hfw hcm
 go_upto_region 4 with (fail)
 have hb1 := Blk.new w2 26 #[.slice A0 f.ins.length c0, .slice A1 f.jobs.length c1, .slice A2 f.outs.length c2]
 have hk3 := (Keeps.refl [] w2).alloc (.cells #[.slice A0 f.ins.length c0, .slice A1 f.jobs.length c1, .slice A2 f.outs.length c2] 26)
 obtain ⟨y0, hy0⟩ : ∃ z, w2.alloc (.cells #[.slice A0 f.ins.length c0, .slice A1 f.jobs.length c1, .slice A2 f.outs.length c2] 26) = z := ⟨_, rfl⟩
 rw [hy0] at hb1 hk3 ⊢
 obtain ⟨F1, hF1⟩ : ∃ F, w2.heap.size = F := ⟨_, rfl⟩
 rw [hF1] at hb1 ⊢
 have HB1 := Lib.hid hb1
 have HK3 := Lib.hid (HK2.out.trans hk3)
 have HFI0 := Lib.hid (HFI.out.keep hk3)
 have a0 : y0.cell? ⟨F1, 0, none⟩ = some (.slice A0 f.ins.length c0) := hb1.cell 0
 have a1 : y0.cell? ⟨F1, 1, none⟩ = some (.slice A1 f.jobs.length c1) := hb1.cell 1
 have a2 : y0.cell? ⟨F1, 2, none⟩ = some (.slice A2 f.outs.length c2) := hb1.cell 2
 clear hb1 hk3 hy0 hF1 HFI HK2
 by_cases hz : f.jobs.length = 0
 ·have q0 : ((f.jobs.length : Int) == 0) = true := by rw [hz]; rfl
  clear hz
  go_wp2
  go_ret
  exact ⟨rfl, HK3.out⟩
 have q0 : ((f.jobs.length : Int) == 0) = false := by rw [beq_eq_false_iff_ne]; omega
 have hnp : 0 < f.jobs.length := by omega
 have hj16 : f.jobs.length ≤ 16 := HW.out.njobs
 obtain ⟨k, hkk⟩ : ∃ k, pickN nb f.jobs.length = k := ⟨_, rfl⟩
 have hkn : k < f.jobs.length := by rw [← hkk]; exact pickN_lt nb hnp
 have HPK : Hid (∀ W, Calls Tryz.prog 20 #[.int .i64 nb, .int .i64 (f.jobs.length : Int)] W fun e w' => e = .returned (.int .i64 (k : Int)) ∧ W = w') := Lib.hid (fun W => by
  rw [← hkk]
  exact pick_any nb f.jobs.length hnp (by omega) W)
 have HC1 : Hid (∀ W, Keeps [] y0 W → Calls Tryz.prog 17 #[.agg #[.slice A0 f.ins.length c0, .slice A1 f.jobs.length c1, .slice A2 f.outs.length c2]] W fun e w' => CheckOut (.ok m) W.heap.size e w' ∧ Keeps [] W w') := Lib.hid (fun W z => by
  rw [← HCM.out]
  exact check_any f _ _ _ W (HFI0.out.keep z) HW.out.short (HO.out.quiet (HK3.out.trans z)) (HT.out.keep (HK3.out.trans z) (by simp)) HW.out.colNames)
 clear hz hkk
 go_wp2_with fail
 refine (HC1.out _ (Keeps.refl _ _)).mono ?_
 rintro e y1 ⟨⟨b1, mv1, rfl, hm1, hcv1, -⟩, k1⟩
 have HM1 := Lib.hid hm1
 have HV1 := Lib.hid hcv1
 have HK1 := Lib.hid (HK3.out.trans k1)
 have HFI1 := Lib.hid (HFI0.out.keep k1)
 have HBA := Lib.hid (HB1.out.keep k1 (by simp))
 clear a0 a1 a2 hm1 hcv1 k1 HC1 HB1 HFI0 HK3
 have a0 : y1.cell? ⟨F1, 0, none⟩ = some (.slice A0 f.ins.length c0) := HBA.out.cell 0
 have a1 : y1.cell? ⟨F1, 1, none⟩ = some (.slice A1 f.jobs.length c1) := HBA.out.cell 1
 have a2 : y1.cell? ⟨F1, 2, none⟩ = some (.slice A2 f.outs.length c2) := HBA.out.cell 2
 go_upto_region 11 with ((with_reducible refine (HPK.out _).mono ?_); rintro e w5 ⟨rfl, rfl⟩)
 have hbG := Blk.new y1 26 #[.slice A0 f.ins.length c0, .slice A1 f.jobs.length c1, .slice A2 f.outs.length c2]
 have hk3 := (Keeps.refl [] y1).alloc (.cells #[.slice A0 f.ins.length c0, .slice A1 f.jobs.length c1, .slice A2 f.outs.length c2] 26)
 obtain ⟨y, hy⟩ : ∃ z, y1.alloc (.cells #[.slice A0 f.ins.length c0, .slice A1 f.jobs.length c1, .slice A2 f.outs.length c2] 26) = z := ⟨_, rfl⟩
 rw [hy] at hbG hk3 ⊢
 obtain ⟨F2, hF2⟩ : ∃ G, y1.heap.size = G := ⟨_, rfl⟩
 rw [hF2] at hbG ⊢
 have HGB := Lib.hid hbG
 have HGW : Hid (y1.heap.size ≤ F2) := Lib.hid (by omega)
 have HKy := Lib.hid hk3
 have HZ : Hid (∀ W, Keeps [] y W → W.cell? ⟨F1, 1, none⟩ = some (.slice A1 f.jobs.length c1)) := Lib.hid (fun W z => (HBA.out.keep (hk3.trans z) (by simp)).cell 1)
 obtain ⟨A1', c1', us, e1, hc1, hn1, hJC, hRD⟩ := HFI1.out.i1.rows
 have hRD := hRD.keep hk3
 injection e1 with e1 e2 e3
 subst e1 e3
 clear e2
 have hus : us.length = f.jobs.length := hJC.1
 obtain ⟨bj, oj, eA, -, -, -⟩ := hRD.open' hnp (by decide)
 have HST : Hid (∀ W, (Instr.slice 23 (.slice A1 f.jobs.length c1) none (some (.int .i64 (k : Int))) none).run Tryz.prog W = .ok (.slice A1 k c1) W) := Lib.hid (fun W => by
  rw [eA]
  exact sliceJ_to bj oj _ _ k (by omega) hc1 W)
 have HSD : Hid (∀ W, (Instr.slice 23 (.slice A1 f.jobs.length c1) (some (.int .i64 (k : Int))) none none).run Tryz.prog W = .ok (.slice (some ⟨bj, oj + k * 15, none⟩) (f.jobs.length - k) (c1 - k)) W) := Lib.hid (fun W => by
  rw [eA]
  exact sliceJ_from bj oj _ _ k hkn hc1 W)
 have hRDd : Rd y [] 15 (some ⟨bj, oj + k * 15, none⟩) (f.jobs.length - k) (us.drop k).flatten := by
  rw [eA] at hRD
  exact rd15_drop hJC.lens hRD hus (by omega) fun _ => rfl
 obtain ⟨AD, hAD⟩ : ∃ X : Option Addr, some ⟨bj, oj + k * 15, none⟩ = X := ⟨_, rfl⟩
 obtain ⟨cD, hcD⟩ : ∃ X, c1 - k = X := ⟨_, rfl⟩
 rw [hAD, hcD] at HSD
 rw [hAD] at hRDd
 have hod : ∀ u ∈ (us.drop k).flatten, u.oneCell' = true := (hJC.drop k).one
 have HCL : Hid (∀ W, Keeps [] y W → Calls Tryz.prog 21 #[.slice AD (f.jobs.length - k : Nat) cD] W fun e w' => (∃ v, e = .returned v ∧ w'.ownsRow W.heap.size 45 15 v (f.jobs.length - k) (us.drop k).flatten) ∧ Keeps [] W w') := Lib.hid (fun W z => cloneJ_any (f.jobs.length - k) (by omega) (by omega) _ hod AD cD W (hRDd.keep z))
 have HRT := Lib.hid (rd15_take hJC.lens hRD hus (m := k) (by omega))
 have HONT : Hid (∀ u ∈ (us.take k).flatten, u.oneCell' = true) := Lib.hid (hJC.take k).one
 have HJC := Lib.hid hJC
 have HNK : Hid (f.jobs.length - k + k = f.jobs.length) := Lib.hid (by omega)
 clear hbG hk3 hy hF2 a0 a1 a2 hJC hRD eA hAD hcD hRDd hod hc1 hn1 hus
 go_cut [] (fun wx => Hid (PtFin y f k us F2 (.slice A0 f.ins.length c0) (.slice A2 f.outs.length c2) wx))
 case first =>
  rename_i J1 K1 hJ1 hK1
  refine wp_region_fit (by kernel_rfl) (by kernel_rfl) (by kernel_rfl) (fun g i => if i = 4 then .slice g.1 (f.jobs.length - k) g.2.1 else if i = 9 then .slice g.2.2.1 (f.jobs.length - k + k) g.2.2.2 else [.pointer (some ⟨F1, 1, none⟩), .slice A1 f.jobs.length c1, .int .i64 (k : Int), .slice AD (f.jobs.length - k) cD, undef, .pointer (some ⟨F1, 1, none⟩), .slice A1 f.jobs.length c1, .int .i64 (k : Int), .slice A1 k c1, undef, .pointer (some ⟨F2, 1, none⟩), undef].getD i undef) (fun g L w' => PtW y f k us F2 (.slice A0 f.ins.length c0) (.slice A2 f.outs.length c2) g L w') ⟨(none, 0, none, 0), ?_⟩ ?_ ?_
  ·exact ⟨(fun h => by cases h), (fun h => by cases h), (fun h => by cases h), fun _ => ⟨(Keeps.refl _ _).drew, (fun h => by cases h), fun h => by cases h⟩⟩
  ·show AllC _ 12
   refine ⟨⟨⟨⟨⟨⟨⟨⟨⟨⟨⟨⟨trivial, ?_⟩, ?_⟩, ?_⟩, ?_⟩, ?_⟩, ?_⟩, ?_⟩, ?_⟩, ?_⟩, ?_⟩, ?_⟩, ?_⟩
   ·intro hb g L a1 w1 hL hD hF hW
    have e5 : a1.tmps.getD 5 undef = .pointer (some ⟨F1, 0, none⟩) := hF.old 5 (by kernel_rfl)
    have hL11 : L 11 = false := hW.n11 hL (by decide)
    have hN := hW.far (i := 0) (by decide) (by decide) (by decide)
    refine fit_val rfl hb rfl hF (by exact hN) ?_
    show (execOp _ _).run _ _ = Result.ok (.value (.pointer (some ⟨F1, 1, none⟩))) _
    clear hN hF hD hb hW
    simp only [execOp, Act.eval, e5]
    go_simp
   ·intro hb g L a1 w1 hL hD hF hW
    have e42 : a1.tmps.getD 42 undef = .pointer (some ⟨F1, 1, none⟩) := hF.y 0 _ 42 rfl rfl (hD 0 (by kernel_rfl))
    have hL11 : L 11 = false := hW.n11 hL (by decide)
    have hN := hW.far (i := 1) (by decide) (by decide) (by decide)
    have z1 := HZ.out w1 (hW.pre hL11).1
    refine fit_val rfl hb rfl hF (by exact hN) ?_
    show (execOp _ _).run _ _ = Result.ok (.value (.slice A1 f.jobs.length c1)) _
    clear hN hF hD hb hW
    simp only [execOp, Act.eval, e42]
    go_simp
   ·intro hb g L a1 w1 hL hD hF hW
    have e9 : a1.tmps.getD 9 undef = .int .i64 (k : Int) := hF.old 9 (by kernel_rfl)
    have hL11 : L 11 = false := hW.n11 hL (by decide)
    have hN := hW.far (i := 2) (by decide) (by decide) (by decide)
    refine fit_val rfl hb rfl hF (by exact hN) ?_
    show (execOp _ _).run _ _ = Result.ok (.value (.int .i64 (k : Int))) _
    clear hN hF hD hb hW
    simp only [execOp, Act.eval, e9]
    go_simp
   ·intro hb g L a1 w1 hL hD hF hW
    have e43 : a1.tmps.getD 43 undef = .slice A1 f.jobs.length c1 := hF.y 1 _ 43 rfl rfl (hD 1 (by kernel_rfl))
    have e44 : a1.tmps.getD 44 undef = .int .i64 (k : Int) := hF.y 2 _ 44 rfl rfl (hD 2 (by kernel_rfl))
    have hL11 : L 11 = false := hW.n11 hL (by decide)
    have hN := hW.far (i := 3) (by decide) (by decide) (by decide)
    have z1 := HSD.out w1
    refine fit_val rfl hb rfl hF (by exact hN) ?_
    show (execOp _ _).run _ _ = Result.ok (.value (.slice AD (f.jobs.length - k) cD)) _
    clear hN hF hD hb hW
    simp only [execOp, Act.eval, e43, e44]
    go_simp
   ·intro hb g L a1 w1 hL hD hF hW
    have e45 : a1.tmps.getD 45 undef = .slice AD (f.jobs.length - k) cD := hF.y 3 _ 45 rfl rfl (hD 3 (by kernel_rfl))
    have hL11 : L 11 = false := hW.n11 hL (by decide)
    obtain ⟨k1, p4, p9⟩ := hW.pre hL11
    refine wpOp_call (f := 21) (args := #[.slice AD (f.jobs.length - k) cD]) rfl rfl ?_ ?_
    ·clear hF hD hb hW
     simp only [execOp, Act.eval, e45]
     go_simp
    ·refine (HCL.out w1 k1).mono ?_
     rintro e w2 ⟨⟨v, rfl, hown⟩, hk2⟩
     obtain ⟨A', c', rfl, _⟩ := own_form hown
     refine ⟨_, rfl, (A', c', g.2.2), (hF.congr (v' := _) fun j hj => ?_).put hb rfl, hW.b4 hL hL11 hk2 hown⟩
     have h4 : j ≠ 4 := fun e => by subst e; rw [hL] at hj; cases hj
     show (if j = 4 then _ else if j = 9 then _ else _) = (if j = 4 then _ else if j = 9 then _ else _)
     rw [if_neg h4, if_neg h4]
   ·intro hb g L a1 w1 hL hD hF hW
    have e5 : a1.tmps.getD 5 undef = .pointer (some ⟨F1, 0, none⟩) := hF.old 5 (by kernel_rfl)
    have hL11 : L 11 = false := hW.n11 hL (by decide)
    have hN := hW.far (i := 5) (by decide) (by decide) (by decide)
    refine fit_val rfl hb rfl hF (by exact hN) ?_
    show (execOp _ _).run _ _ = Result.ok (.value (.pointer (some ⟨F1, 1, none⟩))) _
    clear hN hF hD hb hW
    simp only [execOp, Act.eval, e5]
    go_simp
   ·intro hb g L a1 w1 hL hD hF hW
    have e47 : a1.tmps.getD 47 undef = .pointer (some ⟨F1, 1, none⟩) := hF.y 5 _ 47 rfl rfl (hD 5 (by kernel_rfl))
    have hL11 : L 11 = false := hW.n11 hL (by decide)
    have hN := hW.far (i := 6) (by decide) (by decide) (by decide)
    have z1 := HZ.out w1 (hW.pre hL11).1
    refine fit_val rfl hb rfl hF (by exact hN) ?_
    show (execOp _ _).run _ _ = Result.ok (.value (.slice A1 f.jobs.length c1)) _
    clear hN hF hD hb hW
    simp only [execOp, Act.eval, e47]
    go_simp
   ·intro hb g L a1 w1 hL hD hF hW
    have e9 : a1.tmps.getD 9 undef = .int .i64 (k : Int) := hF.old 9 (by kernel_rfl)
    have hL11 : L 11 = false := hW.n11 hL (by decide)
    have hN := hW.far (i := 7) (by decide) (by decide) (by decide)
    refine fit_val rfl hb rfl hF (by exact hN) ?_
    show (execOp _ _).run _ _ = Result.ok (.value (.int .i64 (k : Int))) _
    clear hN hF hD hb hW
    simp only [execOp, Act.eval, e9]
    go_simp
   ·intro hb g L a1 w1 hL hD hF hW
    have e48 : a1.tmps.getD 48 undef = .slice A1 f.jobs.length c1 := hF.y 6 _ 48 rfl rfl (hD 6 (by kernel_rfl))
    have e49 : a1.tmps.getD 49 undef = .int .i64 (k : Int) := hF.y 7 _ 49 rfl rfl (hD 7 (by kernel_rfl))
    have hL11 : L 11 = false := hW.n11 hL (by decide)
    have hN := hW.far (i := 8) (by decide) (by decide) (by decide)
    have z1 := HST.out w1
    refine fit_val rfl hb rfl hF (by exact hN) ?_
    show (execOp _ _).run _ _ = Result.ok (.value (.slice A1 k c1)) _
    clear hN hF hD hb hW
    simp only [execOp, Act.eval, e48, e49]
    go_simp
   ·intro hb g L a1 w1 hL hD hF hW
    have e46 : a1.tmps.getD 46 undef = .slice g.1 (f.jobs.length - k) g.2.1 := hF.y 4 _ 46 rfl rfl (hD 4 (by kernel_rfl))
    have e50 : a1.tmps.getD 50 undef = .slice A1 k c1 := hF.y 8 _ 50 rfl rfl (hD 8 (by kernel_rfl))
    have hL11 : L 11 = false := hW.n11 hL (by decide)
    obtain ⟨k1, p4, p9⟩ := hW.pre hL11
    have h4 := hD 4 (by kernel_rfl)
    obtain ⟨bs4, hbs, ho⟩ := p4 h4 hL
    obtain ⟨iv, hiv, hvz0, hvz1, hvz2⟩ := info_parts catJinfo
    obtain ⟨v', w2, hrun, ho', hg'⟩ := run_append_rd (P := Tryz.prog) w1 bs4 23 23 45 iv _ 15 208 Tryz.underlying23 hiv hvz0 hvz1 hvz2 rfl (by decide) ho (HRT.out.keep k1) c1 HONT.out (by unfold maxLen; omega) (by omega) hbs.2
    obtain ⟨A', c', rfl, _⟩ := own_form ho'
    have hnew := hW.b9 hL h4 hL11 ho' hg' (fun x hx => Nat.le_trans hbs.1 (ho.lt x hx).1) hbs.1
    refine wpOp_wp rfl rfl (Lib.wp_append_run w1 _ _ _ _ rfl _ _ (show a1.eval (.tmp 46) = _ from e46) (show a1.eval (.tmp 50) = _ from e50) _ w2 hrun ?_)
    refine ⟨(g.1, g.2.1, A', c'), (hF.congr (v' := _) fun j hj => ?_).put hb rfl, hnew⟩
    have h9 : j ≠ 9 := fun e => by subst e; rw [hL] at hj; cases hj
    show (if j = 4 then _ else if j = 9 then _ else _) = (if j = 4 then _ else if j = 9 then _ else _)
    rw [if_neg h9, if_neg h9]
   ·intro hb g L a1 w1 hL hD hF hW
    have e10 : a1.tmps.getD 10 undef = .pointer (some ⟨F2, 0, none⟩) := hF.old 10 (by kernel_rfl)
    have hL11 : L 11 = false := hW.n11 hL (by decide)
    have hN := hW.far (i := 10) (by decide) (by decide) (by decide)
    refine fit_val rfl hb rfl hF (by exact hN) ?_
    show (execOp _ _).run _ _ = Result.ok (.value (.pointer (some ⟨F2, 1, none⟩))) _
    clear hN hF hD hb hW
    simp only [execOp, Act.eval, e10]
    go_simp
   ·intro hb g L a1 w1 hL hD hF hW
    have e52 : a1.tmps.getD 52 undef = .pointer (some ⟨F2, 1, none⟩) := hF.y 10 _ 52 rfl rfl (hD 10 (by kernel_rfl))
    have e51 : a1.tmps.getD 51 undef = .slice g.2.2.1 (f.jobs.length - k + k) g.2.2.2 := hF.y 9 _ 51 rfl rfl (hD 9 (by kernel_rfl))
    obtain ⟨k1, p4, p9⟩ := hW.pre hL
    have h9 := hD 9 (by kernel_rfl)
    obtain ⟨bs9, hbs, ho⟩ := p9 h9
    have hG := HGB.out.keep k1 (by simp)
    have x1 : w1.cell? ⟨F2, 1, none⟩ = some (.slice A1 f.jobs.length c1) := hG.cell 1
    have x2 : w1.frozen? ⟨F2, 1, none⟩ = false := hG.frozen 1
    have hkG : Keeps [F2] w1 (w1.setCell ⟨F2, 1, none⟩ (.slice g.2.2.1 (f.jobs.length - k + k) g.2.2.2)) := (Keeps.refl _ _).setCell (.inl (by simp)) _
    have hfin : PtFin y f k us F2 (.slice A0 f.ins.length c0) (.slice A2 f.outs.length c2) (w1.setCell ⟨F2, 1, none⟩ (.slice g.2.2.1 (f.jobs.length - k + k) g.2.2.2)) :=
     ⟨bs9, g.2.2.1, g.2.2.2, k1.of_nil.trans hkG, (hG.set 1 _).congr rfl, own_keep ho hkG (fun x hx => by simpa using OfTy.ne (own_ty ho x hx) hG.ty (by decide))⟩
    refine wpOp_skip (w' := w1.setCell ⟨F2, 1, none⟩ (.slice g.2.2.1 (f.jobs.length - k + k) g.2.2.2)) rfl rfl ?_ ⟨g, hF.put hb rfl, ?_⟩
    ·clear hF hD hb hW p4 p9 ho
     simp only [execOp, Act.eval, e52, e51]
     go_simp
    ·refine ⟨fun h' => ?_, fun _ => hfin, fun _ j hj => ?_, fun h' => by cases h'⟩
     ·have e : ∀ j, 11 ≠ j → updL L 11 j = L j := fun j hj => by unfold updL; rw [if_neg (Ne.symm hj)]
      rw [e 4 (by decide)]; exact hW.d9 h9
     ·have e : updL L 11 j = L j := by unfold updL; rw [if_neg (by omega)]
      rw [e]
      match j, hj with
      | 0, _ => exact hD 0 (by kernel_rfl)
      | 1, _ => exact hD 1 (by kernel_rfl)
      | 2, _ => exact hD 2 (by kernel_rfl)
      | 3, _ => exact hD 3 (by kernel_rfl)
      | 4, _ => exact hD 4 (by kernel_rfl)
      | 5, _ => exact hD 5 (by kernel_rfl)
      | 6, _ => exact hD 6 (by kernel_rfl)
      | 7, _ => exact hD 7 (by kernel_rfl)
      | 8, _ => exact hD 8 (by kernel_rfl)
      | 9, _ => exact hD 9 (by kernel_rfl)
      | 10, _ => exact hD 10 (by kernel_rfl)
  ·intro g L w' hall hW
   refine hK1 _ _ (Met.intro (hJ1 _ _ ?_))
   repeat apply Exists.intro
   exact ⟨Lib.hid (hW.d11 (hall 11 (by decide))), rfl⟩
 case rest =>
  obtain ⟨base', A, c, hkG, hG, ho⟩ := hcut.out
  obtain ⟨y4, rfl⟩ : ∃ z : World, z = wc := ⟨_, rfl⟩
  rw [HNK.out] at hG ho
  have hk14 : Keeps [] y1 y4 := HKy.out.trans' hkG fun x hx hl => by rw [List.mem_singleton] at hx; have := HGW.out; omega
  have hkw4 := HK1.out.trans hk14
  obtain ⟨m', l, hc', ho', hv, hll, hlk, hnd⟩ := perm_check (g := turnF f k) HCM.out rfl rfl (turn_perm f k)
  have hjn : (turnF f k).jobs.length = f.jobs.length := (turn_perm f k).length_eq
  have hll2 : l.length = f.jobs.length := hll.trans hjn
  have hjc : JobsC y4 (us.drop k ++ us.take k) (turnF f k).jobs := ((HJC.out.keep hk14).drop k).append ((HJC.out.keep hk14).take k)
  rw [← List.flatten_append] at ho
  have hls := hjc.lsIn (base := base') (v := .slice A f.jobs.length c) (by rw [hjn]; exact ho) (by rw [hjn]; omega)
  have hfg : FlIn y4 (.slice A0 f.ins.length c0) (.slice A f.jobs.length c) (.slice A2 f.outs.length c2) (turnF f k) := ⟨(HFI1.out.keep hk14).i0, hls, (HFI1.out.keep hk14).i2⟩
  have hfwg := turn_FlW HW.out k
  have HC2 : Hid (∀ W, Keeps [] y4 W → Calls Tryz.prog 17 #[.agg #[.slice A0 f.ins.length c0, .slice A f.jobs.length c, .slice A2 f.outs.length c2]] W fun e w' => CheckOut (.ok m') W.heap.size e w' ∧ Keeps [] W w') := Lib.hid (fun W z => by
   rw [← hc']
   exact check_any (turnF f k) _ _ _ W (hfg.keep z) hfwg.short (HO.out.quiet (hkw4.trans z)) (HT.out.keep (hkw4.trans z) (by simp)) hfwg.colNames)
  have HO2 : Hid (∀ W, Keeps [] y4 W → Calls Tryz.prog 18 #[.agg #[.slice A0 f.ins.length c0, .slice A f.jobs.length c, .slice A2 f.outs.length c2]] W fun e w' => (∃ B d, e = .returned (.tuple #[.slice B f.jobs.length d, .nilIface]) ∧ f.jobs.length ≤ d ∧ Rd w' [] 1 B f.jobs.length (natsV l)) ∧ Keeps [] W w') := Lib.hid (fun W z => by
   have h := order_any (turnF f k) _ _ _ W (hfg.keep z)
   rw [ho'] at h
   unfold OrderOut at h
   dsimp only at h
   rw [hll2] at h
   exact h)
  have hnd0 : (m.map (·.1)).Nodup := (check_ok HCM.out).keys
  have hkeys : ∀ n v, m.lookup n = some v → n.length ≤ 1000 := fun n v h => by
   have hS := (check_ok HCM.out).sol
   by_cases hn : n ∈ allN f
   ·exact Nat.le_trans (HW.out.names n hn).len (by decide)
   ·rw [hS.none n hn] at h; cases h
  have hmm : m'.length = m.length := by
   have h1 := nodup_len hnd (m := m.map (·.1)) fun n hn => lookup_isSome.1 (by rw [← hlk n]; exact lookup_isSome.2 hn)
   have h2 := nodup_len hnd0 (m := m'.map (·.1)) fun n hn => lookup_isSome.1 (by rw [hlk n]; exact lookup_isSome.2 hn)
   rw [List.length_map, List.length_map] at h1 h2
   omega
  have HND := Lib.hid hnd
  have HND0 := Lib.hid hnd0
  have HKEYS := Lib.hid hkeys
  have HLK := Lib.hid hlk
  have HMM := Lib.hid hmm
  have HV := Lib.hid hv
  have HLL := Lib.hid hll2
  have HJN := Lib.hid hjn
  have HFG := Lib.hid hfg
  have HKW := Lib.hid hkw4
  have HG4 := Lib.hid hG
  have HMA := Lib.hid (HM1.out.keep hk14 (by simp))
  have HVA := Lib.hid (HV1.out.keep hk14)
  have g0 : y4.cell? ⟨F2, 0, none⟩ = some (.slice A0 f.ins.length c0) := hG.cell 0
  have g1 : y4.cell? ⟨F2, 1, none⟩ = some (.slice A f.jobs.length c) := hG.cell 1
  have g2 : y4.cell? ⟨F2, 2, none⟩ = some (.slice A2 f.outs.length c2) := hG.cell 2
  clear hkG hG ho hk14 hkw4 hc' ho' hv hll hlk hnd hjn hll2 hjc hls hfg hfwg hnd0 hkeys hmm hcut HZ HSD HST HCL HRT HONT HJC HNK HKy HGB HGW HM1 HV1 HFI1 HBA
  go_wp2_with fail
  refine (HC2.out _ (Keeps.refl _ _)).mono ?_
  rintro e y5 ⟨⟨b2, mv2, rfl, hm2, hcv2, -⟩, k5⟩
  have HEQ := Lib.hid (eqFunc_any mv1 mv2 m m' b1 b2 y5 (HMA.out.keep k5 (by simp)) hm2 (HVA.out.keep k5) hcv2 m.length (by rw [cntH_nodup (by rw [HVA.out.fst]; exact HND0.out), HVA.out.len]) (by rw [cntH_nodup (by rw [hcv2.fst]; exact HND.out), hcv2.len, HMM.out]) HLK.out HKEYS.out)
  have HK5 := Lib.hid k5
  clear g0 g1 g2 hm2 hcv2 k5 HC2 HMA HVA
  go_wp2_with fail
  refine HEQ.out.mono ?_
  rintro e y6 ⟨rfl, k6⟩
  have HK6 := Lib.hid (HK5.out.trans k6)
  clear k6 HEQ HK5
  have g0 : y6.cell? ⟨F2, 0, none⟩ = some (.slice A0 f.ins.length c0) := (HG4.out.keep HK6.out (by simp)).cell 0
  have g1 : y6.cell? ⟨F2, 1, none⟩ = some (.slice A f.jobs.length c) := (HG4.out.keep HK6.out (by simp)).cell 1
  have g2 : y6.cell? ⟨F2, 2, none⟩ = some (.slice A2 f.outs.length c2) := (HG4.out.keep HK6.out (by simp)).cell 2
  go_wp2_with fail
  refine (HO2.out _ HK6.out).mono ?_
  rintro e y7 ⟨⟨B, d, rfl, hnd7, hr7⟩, k7⟩
  have HK7 := Lib.hid (HK6.out.trans k7)
  obtain ⟨gL, oL, rfl, -, -, hcc⟩ := hr7.open' hnp (by decide)
  have HCC : Hid (∀ j (h : j < l.length), y7.cell? ⟨gL, oL + j, none⟩ = some (.int .i64 (l[j] : Nat))) := Lib.hid (fun j h => hcc j _ (by simp [natsV, intsN, h]))
  have HRL := Lib.hid hr7
  clear g0 g1 g2 k7 HK6 HO2 hcc hr7
  have HG7 := Lib.hid (HG4.out.keep HK7.out (by simp))
  have g1 : y7.cell? ⟨F2, 1, none⟩ = some (.slice A f.jobs.length c) := HG7.out.cell 1
  have q7 : ((f.jobs.length : Int) != (f.jobs.length : Int)) = false := by simp
  go_wp2_with fail
  clear g1 q7
  go_loopw [13] (fun i wr => ∃ j : Nat, j ≤ f.jobs.length ∧ i = .int .i64 j ∧ Hid (Keeps [] y7 wr)) (fun i _ => f.jobs.length - (intOf i).toNat)
  case atStart => exact ⟨0, Nat.zero_le _, rfl, Lib.hid (Keeps.refl _ _)⟩
  case round =>
   obtain ⟨j, hj, rfl, HKJ⟩ := hrel
   obtain ⟨u, rfl⟩ : ∃ u : World, u = wr := ⟨_, rfl⟩
   by_cases hjl : j < f.jobs.length
   ·have hji : (j : Int) < (f.jobs.length : Int) := by omega
    have hjl' : j < l.length := by rw [HLL.out]; exact hjl
    have hx1 := HCC.out j hjl'
    have hxr := HV.out.ready j hjl'
    have hxf := nodup_fresh HV.out.nodup j hjl'
    have hxl : l[j] < (turnF f k).jobs.length := HV.out.lt _ (List.getElem_mem hjl')
    have hrt := rdN_take HRL.out HLL.out (j := j) hj
    have htl : (l.take j).length = j := by rw [List.length_take]; omega
    generalize l[j] = x at *
    have HCT : Hid (∀ W, Keeps [] u W → Calls Tryz.prog 24 #[.slice (some ⟨gL, oL, none⟩) j d, .int .i64 x] W fun e w' => e = .returned (.bool false) ∧ Keeps [] W w') := Lib.hid fun W z => by
     have h := contains_int (x : Int) (intsN (l.take j)) (some ⟨gL, oL, none⟩) d W (by rw [intsN_len, htl]; exact hrt.keep (HKJ.out.trans z)) (by rw [intsN_len, htl]; omega)
     rw [any_nat, intsN_len, htl, hxf] at h
     exact h.mono fun e w' ⟨h1, h2⟩ => ⟨h1, h2 ▸ Keeps.refl _ _⟩
    have HRDY : Hid (∀ W, Keeps [] u W → Calls Tryz.prog 25 #[.agg #[.slice A0 f.ins.length c0, .slice A f.jobs.length c, .slice A2 f.outs.length c2], .int .i64 x, .slice (some ⟨gL, oL, none⟩) j d] W fun e w' => e = .returned (.bool true) ∧ Keeps [] W w') := Lib.hid fun W z => by
     have h := ready_any (turnF f k) _ _ _ x hxl (l.take j) (some ⟨gL, oL, none⟩) d W (HFG.out.keep (HK7.out.trans (HKJ.out.trans z))) (by rw [intsN_len, htl]; exact hrt.keep (HKJ.out.trans z)) (by rw [intsN_len, htl]; omega)
     rw [hxr, intsN_len, htl] at h
     exact h
    have hq : ∀ (p : KW u), (Instr.slice 55 (.slice (some ⟨gL, oL, none⟩) f.jobs.length d) none (some (.int .i64 (j : Int))) none).run Tryz.prog p.w = .ok (.slice (some ⟨gL, oL, none⟩) j d) p.w := fun p => sliceI_to _ _ _ j hj hnd7 p.w
    have e1 := HKJ.out.cell_of hx1 (by simp)
    have lgL : gL < u.heap.size := World.block_lt_of_cell? _ _ e1
    have hg := HG7.out.keep HKJ.out (by simp)
    have g0 : u.cell? ⟨F2, 0, none⟩ = some (.slice A0 f.ins.length c0) := hg.cell 0
    have g1 : u.cell? ⟨F2, 1, none⟩ = some (.slice A f.jobs.length c) := hg.cell 1
    have g2 : u.cell? ⟨F2, 2, none⟩ = some (.slice A2 f.outs.length c2) := hg.cell 2
    have lF2 : F2 < u.heap.size := World.block_lt_of_cell? _ _ g0
    clear hx1 hxr hxf hxl hrt htl hg hjl'
    go_upto_region 21 with (fail)
    refine wp_region_keeps (by kernel_rfl) (by kernel_rfl) ?_
    repeat (go_big_quiet_step (first | with_reducible exact KW.of HCT.out _ | with_reducible exact KW.of HRDY.out _))
    refine wpQuiet_nil ?_
    intro wx kx
    have HKX := Lib.hid (HKJ.out.trans kx)
    go_wp2
    go_roundw
    case rel => exact ⟨j + 1, by omega, by go_num, HKX⟩
    case measure => simp [intOf]; omega
   ·have hji : ¬ (j : Int) < (f.jobs.length : Int) := by omega
    have HKF := Lib.hid (HKW.out.trans (HK7.out.trans HKJ.out))
    go_wp2
    go_ret
    exact ⟨rfl, HKF.out⟩
end Go.Proofs.YtnjjajanfedjiaaGreatDoor
namespace Go.Proofs.YtnjjajanfedjiaaGreatDoor
open Go.RowKit Go.ChangeShapes Go.WideShapes
theorem Fr.own : ownKnob Tryz.prog.godebug = none := by kernel_rfl
theorem Fr.laidOut : laidOutB Tryz.prog = true := by kernel_rfl
section
variable {P : Program} {H : Type} {enc : TypeId × Value → H} {W : World} {r : Reach} {base : Nat} {t e : TypeId} {v : Value} {d : DataW H} {p : List MemPlace}
theorem Keeps.trod {W' : World} (hl : laidOutB P = true) (hr : P.readableRec t = true) (hrow : t < P.types.size)
  (h : DataW.Trod enc P W 0 (fun _ => true) true t v d p) (hb : Keeps [] W W') (hlt : ∀ x ∈ p, x.block < W.heap.size) :
  DataW.Trod enc P W' 0 (fun b => decide (b < W.heap.size)) true t v d p :=
 WideElems.Trod_stays hl hr hrow h (fun x hx => hb.same (hlt x hx)) (fun x hx => by simpa using hlt x hx)
end
end Go.Proofs.YtnjjajanfedjiaaGreatDoor
