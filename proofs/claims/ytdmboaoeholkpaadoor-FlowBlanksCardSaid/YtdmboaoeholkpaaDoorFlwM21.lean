/- FlowBlanks. The frame of a law: arguments opened as lists, the handle of the type error. A row's wrap; what a laid list says of variables: for any seat. -/
import Derived.Test.YtdmboaoeholkpaaDoorFlwM20
import Derived.Test.YtdmboaoeholkpaaDoorFlwM1
import Derived.Test.YtdmboaoeholkpaaDoorRows
import Derived.WalkKit
import Derived.ProofKit
import Derived.OpenShut
import Derived.ShutString
import Derived.ChangeOld
import Derived.ChangeSlices
import Derived.SliceStrings
import Derived.Deep.Slices
import Derived.Carry
import Derived.Handed
import Derived.LaidLaws
import Derived.LaidHandle
import Derived.JoinedOf
import Derived.Stop.Joined
import Derived.Test.YtdmboaoeholkpaaDoorProg
import Derived.Lib.LaidTab
import Derived.LaidSub
import Derived.LaidMore
import Derived.Shelf.Vars
import Derived.HandedShaped
namespace Go.Proofs.YtdmboaoeholkpaaDoor
open Go.RowKit Go.BigFrame
attribute [local go_sem] bs_size bs_extract bs_append bs_toList
def gapL : List Bs := [[32], [10], [32, 32, 10], [32, 32, 32]]
/-- The blanks that stand in the place of the n-th one. -/
def gapOf (zs : List Int) (n : Nat) : Bs := gapL.getD (pickN (zs.getD (n % zs.length) 0) 4) []
theorem gap_good (zs : List Int) : GapG (gapOf zs) := fun n => by
  have h := pickN_lt (zs.getD (n % zs.length) 0) (n := 4) (by decide)
  have key : ∀ k, k < 4 → gapL.getD k [] ≠ [] ∧ (gapL.getD k []).length ≤ 3 ∧ ∀ c ∈ gapL.getD k [], blankC c = true := by decide
  exact key _ h
set_option maxRecDepth 100000 in
theorem gap_ix (r : Nat) (h : r < 4) : ∀ w, (Instr.index 35 (.agg #[.string ⟨#[32]⟩, .string ⟨#[10]⟩, .string ⟨#[32, 32, 10]⟩, .string ⟨#[32, 32, 32]⟩]) (.int .i64 (r : Int))).run Tryd.prog w = .ok (.string (bs (gapL.getD r []))) w := by
  obtain rfl | rfl | rfl | rfl : r = 0 ∨ r = 1 ∨ r = 2 ∨ r = 3 := by omega
  all_goals exact fun _ => by kernel_rfl
theorem take_fold {α : Type} (g : α → UInt8 → α) (a : α) (T : Bs) (k : Nat) (h : k < T.length) : (T.take (k + 1)).foldl g a = g ((T.take k).foldl g a) T[k] := by
  rw [List.take_succ_eq_append_getElem h, List.foldl_append]
  rfl
set_option maxRecDepth 100000 in
set_option maxHeartbeats 8000000 in
theorem blanks_any (s : Bs) (zs : List Int) (A : Option Addr) (cz : Nat) (w : World) (hE : FEnv w) (hR : Rd w [] 1 A zs.length (zs.map (Value.int .i64))) :
    Calls Tryd.prog 4 #[.string (bs s), .slice A zs.length cz] w fun e w' => e = .returned (.bool true) ∧ Keeps [] w w' := by
  by_cases hs : s.length ≤ 1000
  case neg =>
    have h1 : (1000 : Int) < (s.length : Int) := by omega
    clear hR hE
    go_enter Tryd.func4, Tryd.ntmps4
    go_wp2
    go_ret
    exact ⟨rfl, Keeps.refl _ _⟩
  have h1 : ¬ (1000 : Int) < (s.length : Int) := by omega
  by_cases hz : zs.length ≤ 40
  case neg =>
    have h2 : (40 : Int) < (zs.length : Int) := by omega
    clear hR hE
    go_enter Tryd.func4, Tryd.ntmps4
    go_wp2
    go_ret
    exact ⟨rfl, Keeps.refl _ _⟩
  have h2 : ¬ (40 : Int) < (zs.length : Int) := by omega
  have HFD := Lib.hid (flowed_any readW w hE)
  have HE := Lib.hid hE
  have HR := Lib.hid hR
  have hP := fun W (hW : FEnv W) => parse_any s (by omega) W hW
  rcases hp : parseF s with x | f
  · rw [hp] at hP
    have HP := Lib.hid hP
    clear hP hp hE hs hR
    go_enter Tryd.func4, Tryd.ntmps4
    go_wp2_with fail
    refine HFD.out.mono ?_
    rintro e w1 ⟨rfl, hk1⟩
    have HK1 := Lib.hid hk1
    clear hk1
    go_wp2_with fail
    refine (HP.out _ (HE.out.quiet HK1.out)).mono ?_
    rintro e w2 ⟨⟨gi, rfl, hb⟩, hk2⟩
    have HK2 := Lib.hid (HK1.out.trans hk2)
    clear hk2 hb
    go_wp2
    go_ret
    exact ⟨rfl, HK2.out.alloc _⟩
  rw [hp] at hP
  obtain ⟨hf, hn⟩ := parseF_o (by omega) hp
  obtain ⟨⟨f', hq, hqp⟩, hlen⟩ := blanked_back hf hn (gap_good zs)
  have hpl := printF_len hf
  have hfw := (parseF_o (s := blanked (gapOf zs) (printF f)) (by
    have h1 := flat_len inT 20000 f.ins (fun x hx => inT_len (hf.ins x hx))
    have h2 := flat_len jobT 25000 f.jobs (fun x hx => jobT_len x (hf.jobs x hx))
    have h3 := flat_len outT 40 f.outs (fun x hx => outT_len (hf.outs x hx))
    have e1 : f.ins.length * 20000 ≤ 16 * 20000 := Nat.mul_le_mul_right _ hf.nins
    have e2 : f.jobs.length * 25000 ≤ 16 * 25000 := Nat.mul_le_mul_right _ hf.njobs
    have e3 : f.outs.length * 40 ≤ 16 * 40 := Nat.mul_le_mul_right _ hf.nouts
    unfold printF at hlen ⊢
    simp only [List.length_append] at hlen ⊢
    omega) hq).1
  have hlb : (blanked (gapOf zs) (printF f)).length ≤ 1000000 := by
    have h1 := flat_len inT 20000 f.ins (fun x hx => inT_len (hf.ins x hx))
    have h2 := flat_len jobT 25000 f.jobs (fun x hx => jobT_len x (hf.jobs x hx))
    have h3 := flat_len outT 40 f.outs (fun x hx => outT_len (hf.outs x hx))
    have e1 : f.ins.length * 20000 ≤ 16 * 20000 := Nat.mul_le_mul_right _ hf.nins
    have e2 : f.jobs.length * 25000 ≤ 16 * 25000 := Nat.mul_le_mul_right _ hf.njobs
    have e3 : f.outs.length * 40 ≤ 16 * 40 := Nat.mul_le_mul_right _ hf.nouts
    unfold printF at hlen ⊢
    simp only [List.length_append] at hlen ⊢
    omega
  have hQ := fun W (hW : FEnv W) => parse_any (blanked (gapOf zs) (printF f)) hlb W hW
  rw [hq] at hQ
  obtain ⟨T, hT⟩ : ∃ T, printF f = T := ⟨_, rfl⟩
  rw [hT] at hQ hqp hpl
  have HP := Lib.hid hP
  have HQ := Lib.hid hQ
  have HF := Lib.hid hf
  have HG := Lib.hid hfw
  have HGP := Lib.hid hqp
  have HTT := Lib.hid hT
  clear hP hQ hp hq hqp hlen hf hfw hE hs hT hlb hn hR
  by_cases hz0 : zs.length = 0
  · have h3 : ((zs.length : Int) == 0) = true := by rw [beq_iff_eq]; omega
    clear hz0
    go_enter Tryd.func4, Tryd.ntmps4
    go_wp2_with fail
    refine HFD.out.mono ?_
    rintro e w1 ⟨rfl, hk1⟩
    have HK1 := Lib.hid hk1
    clear hk1
    go_wp2_with fail
    refine (HP.out _ (HE.out.quiet HK1.out)).mono ?_
    rintro e w2 ⟨⟨v0, v1, v2, rfl, hi0, hi1, hi2⟩, hk2⟩
    have HK2 := Lib.hid (HK1.out.trans hk2)
    obtain ⟨A0, c0, rfl⟩ := lst_form hi0
    obtain ⟨A1, c1, rfl⟩ := lst_form hi1
    obtain ⟨A2, c2, rfl⟩ := lst_form hi2
    clear hk2 hi0 hi1 hi2
    go_wp2
    go_ret
    exact ⟨rfl, HK2.out.alloc _⟩
  have h3 : ((zs.length : Int) == 0) = false := by rw [beq_eq_false_iff_ne]; omega
  have hzp : 0 < zs.length := by omega
  go_enter Tryd.func4, Tryd.ntmps4
  go_wp2_with fail
  refine HFD.out.mono ?_
  rintro e w1 ⟨rfl, hk1⟩
  have HK1 := Lib.hid hk1
  clear hk1
  go_wp2_with fail
  refine (HP.out _ (HE.out.quiet HK1.out)).mono ?_
  rintro e w2 ⟨⟨v0, v1, v2, rfl, hi0, hi1, hi2⟩, hk2⟩
  obtain ⟨A0, c0, rfl⟩ := lst_form hi0
  obtain ⟨A1, c1, rfl⟩ := lst_form hi1
  obtain ⟨A2, c2, rfl⟩ := lst_form hi2
  have hka := (Keeps.refl [] w2).alloc (.cells #[.slice A0 f.ins.length c0, .slice A1 f.jobs.length c1, .slice A2 f.outs.length c2] 27)
  have hpr := print_any f HF.out w1.heap.size _ _ _ _ (HE.out.quiet ((HK1.out.trans hk2).trans hka)) (ins_keep hi0 hka) (jobs_keep hi1 hka) (outs_keep hi2 hka)
  rw [HTT.out] at hpr
  have HT := Lib.hid hpr
  have HK2 := Lib.hid ((HK1.out.trans hk2).trans hka)
  clear hi0 hi1 hi2 hk2 hka hpr
  go_wp2_with fail
  refine HT.out.mono ?_
  rintro e w3 ⟨rfl, hk3⟩
  have HK3 := Lib.hid (HK2.out.trans hk3)
  clear hk3 HK2 HT
  have HRZ := Lib.hid (HR.out.keep HK3.out)
  go_upto_block 0 with (fail)
  go_cut [8] (fun v wx => v = .string (bs (blanked (gapOf zs) T)) ∧ wx = w3)
  case first =>
    go_wp2_with fail
    go_loop [8, 9, 10, 11] (fun o n q i => ∃ (k m : Nat) (ob : Bs) (qb : Bool), k ≤ T.length ∧ i = .int .i64 k ∧ o = .string (bs ob) ∧ n = .int .i64 m ∧ q = .bool qb ∧ Hid ((T.take k).foldl (bstep (gapOf zs)) ([], 0, false) = (ob, m, qb)) ∧ m ≤ k ∧ ob.length ≤ 3 * k) (fun _ _ _ i => T.length - (intOf i).toNat)
    case atStart => exact ⟨0, 0, [], false, Nat.zero_le _, rfl, rfl, rfl, rfl, Lib.hid rfl, Nat.le_refl _, Nat.zero_le _⟩
    case round =>
      obtain ⟨k, m, ob, qb, hk, rfl, rfl, rfl, rfl, hst, hmk, hol⟩ := hrel
      by_cases hlt : k < T.length
      · have hki : (k : Int) < (T.length : Int) := by omega
        have hbyte : ((bs T)[k]'(by rw [bs_size]; exact hlt)) = T[k] := bs_get T k _
        have hnx := take_fold (bstep (gapOf zs)) ([], 0, false) T k hlt
        rw [hst.out] at hnx
        have hsl := fun W => slice_str (P := Tryd.prog) Tryd.underlying9 T k (k + 1) (by omega) (by omega) W
        have etk : (T.take (k + 1)).drop k = [T[k]] := by rw [List.drop_take, show k + 1 - k = 1 by omega, List.drop_eq_getElem_cons hlt]; rfl
        rw [etk, show ((k + 1 : Nat) : Int) = (k : Int) + 1 by omega] at hsl
        generalize T[k] = c at *
        have h39 : c = 39 ↔ (c.toNat : Int) = 39 := ⟨fun h => by rw [h]; rfl, fun h => UInt8.toNat_inj.1 (by have : (39 : UInt8).toNat = 39 := rfl; omega)⟩
        have h32 : c = 32 ↔ (c.toNat : Int) = 32 := ⟨fun h => by rw [h]; rfl, fun h => UInt8.toNat_inj.1 (by have : (32 : UInt8).toNat = 32 := rfl; omega)⟩
        have h10 : c = 10 ↔ (c.toNat : Int) = 10 := ⟨fun h => by rw [h]; rfl, fun h => UInt8.toNat_inj.1 (by have : (10 : UInt8).toNat = 10 := rfl; omega)⟩
        have HNX := Lib.hid hnx
        clear hnx hst etk
        cases qb with
        | false =>
          by_cases e39 : c = 39
          · have e32 : ¬ c = 32 := fun h => by rw [h] at e39; exact absurd e39 (by decide)
            have e10 : ¬ c = 10 := fun h => by rw [h] at e39; exact absurd e39 (by decide)
            have E1 : (c == 39) = true := by rw [beq_iff_eq]; exact e39
            have t1 : ((c.toNat : Int) == 39) = true := by rw [beq_iff_eq]; exact h39.1 e39
            have E2 : (c == 32) = false := by rw [beq_eq_false_iff_ne]; exact e32
            have t2 : ((c.toNat : Int) == 32) = false := by rw [beq_eq_false_iff_ne]; exact fun h => e32 (h32.2 h)
            have E3 : (c == 10) = false := by rw [beq_eq_false_iff_ne]; exact e10
            have t3 : ((c.toNat : Int) == 10) = false := by rw [beq_eq_false_iff_ne]; exact fun h => e10 (h10.2 h)
            have HN2 : Hid ((T.take (k + 1)).foldl (bstep (gapOf zs)) ([], 0, false) = (ob ++ [c], m, true)) := Lib.hid (by
              rw [HNX.out]
              unfold bstep
              simp [E1, E2, E3])
            clear h39 h32 h10 HNX E1 E2 E3 e39
            try clear e32
            try clear e10
            go_wp2
            go_round
            case rel => exact ⟨k + 1, m, ob ++ [c], true, by omega, by go_num, rfl, rfl, rfl, HN2, by omega, by simp; omega⟩
            case measure => simp [intOf]; omega
          by_cases e32 : c = 32
          · have e10 : ¬ c = 10 := fun h => by rw [h] at e32; exact absurd e32 (by decide)
            have E1 : (c == 39) = false := by rw [beq_eq_false_iff_ne]; exact e39
            have t1 : ((c.toNat : Int) == 39) = false := by rw [beq_eq_false_iff_ne]; exact fun h => e39 (h39.2 h)
            have E2 : (c == 32) = true := by rw [beq_iff_eq]; exact e32
            have t2 : ((c.toNat : Int) == 32) = true := by rw [beq_iff_eq]; exact h32.1 e32
            have E3 : (c == 10) = false := by rw [beq_eq_false_iff_ne]; exact e10
            have t3 : ((c.toNat : Int) == 10) = false := by rw [beq_eq_false_iff_ne]; exact fun h => e10 (h10.2 h)
            obtain ⟨r, hr⟩ : ∃ r, pickN (zs.getD (m % zs.length) 0) 4 = r := ⟨_, rfl⟩
            have hr4 : r < 4 := by rw [← hr]; exact pickN_lt _ (by decide)
            have hzi : m % zs.length < zs.length := Nat.mod_lt _ hzp
            have hrd : ∃ gz oz, A = some ⟨gz, oz, none⟩ ∧ w3.cell? ⟨gz, oz + m % zs.length, none⟩ = some (.int .i64 (zs.getD (m % zs.length) 0)) := by
              obtain ⟨gz, oz, h1, _, _, h2⟩ := HRZ.out.open' hzp (by decide)
              exact ⟨gz, oz, h1, h2 _ _ (by rw [List.getElem?_map, List.getElem?_eq_getElem hzi, List.getD_eq_getElem?_getD, List.getElem?_eq_getElem hzi]; rfl)⟩
            obtain ⟨gz, oz, rfl, hcz⟩ := hrd
            obtain ⟨z, hz9⟩ : ∃ z, zs.getD (m % zs.length) 0 = z := ⟨_, rfl⟩
            rw [hz9] at hcz hr
            have HPR := Lib.hid hr
            have hgap : gapOf zs m = gapL.getD r [] := by unfold gapOf; rw [hz9, hr]
            have lgz := World.block_lt_of_cell? _ _ hcz
            have HN2 : Hid ((T.take (k + 1)).foldl (bstep (gapOf zs)) ([], 0, false) = (ob ++ gapL.getD r [], m + 1, false)) := Lib.hid (by
              rw [HNX.out]
              unfold bstep
              simp [E1, E2, E3, hgap])
            have hmod : Int.tmod (m : Int) (zs.length : Int) = ((m % zs.length : Nat) : Int) := by
              rw [Int.tmod_eq_emod_of_nonneg (Int.natCast_nonneg _)]
              rfl
            clear h39 h32 h10 HNX E1 E2 E3 hgap hz9 hr e39 e32 e10
            obtain ⟨j, hj⟩ : ∃ j, m % zs.length = j := ⟨_, rfl⟩
            rw [hj] at hmod hcz hzi
            have hji : (j : Int) < (zs.length : Int) := by omega
            clear hj
            have hpv : wrap64 ((IntKind.u64.wrap z).tmod 4) = (r : Int) := by
              have := pick_val z 4 (by decide) (by decide)
              rw [HPR.out] at this
              exact this
            have hix := gap_ix r hr4
            have hgl : (gapL.getD r []).length ≤ 3 := by
              have key : ∀ k, k < 4 → (gapL.getD k []).length ≤ 3 := by decide
              exact key r hr4
            generalize gapL.getD r [] = G at *
            go_wp2
            go_round
            case rel => exact ⟨k + 1, m + 1, ob ++ G, false, by omega, by go_num, rfl, by go_num, rfl, HN2, by omega, by simp; omega⟩
            case measure => simp [intOf]; omega
          by_cases e10 : c = 10
          · skip
            have e32' := e32
            have E1 : (c == 39) = false := by rw [beq_eq_false_iff_ne]; exact e39
            have t1 : ((c.toNat : Int) == 39) = false := by rw [beq_eq_false_iff_ne]; exact fun h => e39 (h39.2 h)
            have E2 : (c == 32) = false := by rw [beq_eq_false_iff_ne]; exact e32
            have t2 : ((c.toNat : Int) == 32) = false := by rw [beq_eq_false_iff_ne]; exact fun h => e32 (h32.2 h)
            have E3 : (c == 10) = true := by rw [beq_iff_eq]; exact e10
            have t3 : ((c.toNat : Int) == 10) = true := by rw [beq_iff_eq]; exact h10.1 e10
            obtain ⟨r, hr⟩ : ∃ r, pickN (zs.getD (m % zs.length) 0) 4 = r := ⟨_, rfl⟩
            have hr4 : r < 4 := by rw [← hr]; exact pickN_lt _ (by decide)
            have hzi : m % zs.length < zs.length := Nat.mod_lt _ hzp
            have hrd : ∃ gz oz, A = some ⟨gz, oz, none⟩ ∧ w3.cell? ⟨gz, oz + m % zs.length, none⟩ = some (.int .i64 (zs.getD (m % zs.length) 0)) := by
              obtain ⟨gz, oz, h1, _, _, h2⟩ := HRZ.out.open' hzp (by decide)
              exact ⟨gz, oz, h1, h2 _ _ (by rw [List.getElem?_map, List.getElem?_eq_getElem hzi, List.getD_eq_getElem?_getD, List.getElem?_eq_getElem hzi]; rfl)⟩
            obtain ⟨gz, oz, rfl, hcz⟩ := hrd
            obtain ⟨z, hz9⟩ : ∃ z, zs.getD (m % zs.length) 0 = z := ⟨_, rfl⟩
            rw [hz9] at hcz hr
            have HPR := Lib.hid hr
            have hgap : gapOf zs m = gapL.getD r [] := by unfold gapOf; rw [hz9, hr]
            have lgz := World.block_lt_of_cell? _ _ hcz
            have HN2 : Hid ((T.take (k + 1)).foldl (bstep (gapOf zs)) ([], 0, false) = (ob ++ gapL.getD r [], m + 1, false)) := Lib.hid (by
              rw [HNX.out]
              unfold bstep
              simp [E1, E2, E3, hgap])
            have hmod : Int.tmod (m : Int) (zs.length : Int) = ((m % zs.length : Nat) : Int) := by
              rw [Int.tmod_eq_emod_of_nonneg (Int.natCast_nonneg _)]
              rfl
            clear h39 h32 h10 HNX E1 E2 E3 hgap hz9 hr e39 e32 e10
            obtain ⟨j, hj⟩ : ∃ j, m % zs.length = j := ⟨_, rfl⟩
            rw [hj] at hmod hcz hzi
            have hji : (j : Int) < (zs.length : Int) := by omega
            clear hj
            have hpv : wrap64 ((IntKind.u64.wrap z).tmod 4) = (r : Int) := by
              have := pick_val z 4 (by decide) (by decide)
              rw [HPR.out] at this
              exact this
            have hix := gap_ix r hr4
            have hgl : (gapL.getD r []).length ≤ 3 := by
              have key : ∀ k, k < 4 → (gapL.getD k []).length ≤ 3 := by decide
              exact key r hr4
            generalize gapL.getD r [] = G at *
            go_wp2
            go_round
            case rel => exact ⟨k + 1, m + 1, ob ++ G, false, by omega, by go_num, rfl, by go_num, rfl, HN2, by omega, by simp; omega⟩
            case measure => simp [intOf]; omega
          have E1 : (c == 39) = false := by rw [beq_eq_false_iff_ne]; exact e39
          have t1 : ((c.toNat : Int) == 39) = false := by rw [beq_eq_false_iff_ne]; exact fun h => e39 (h39.2 h)
          have E2 : (c == 32) = false := by rw [beq_eq_false_iff_ne]; exact e32
          have t2 : ((c.toNat : Int) == 32) = false := by rw [beq_eq_false_iff_ne]; exact fun h => e32 (h32.2 h)
          have E3 : (c == 10) = false := by rw [beq_eq_false_iff_ne]; exact e10
          have t3 : ((c.toNat : Int) == 10) = false := by rw [beq_eq_false_iff_ne]; exact fun h => e10 (h10.2 h)
          have HN2 : Hid ((T.take (k + 1)).foldl (bstep (gapOf zs)) ([], 0, false) = (ob ++ [c], m, false)) := Lib.hid (by
            rw [HNX.out]
            unfold bstep
            simp [E1, E2, E3])
          clear h39 h32 h10 HNX E1 E2 E3 e39
          try clear e32
          try clear e10
          go_wp2
          go_round
          case rel => exact ⟨k + 1, m, ob ++ [c], false, by omega, by go_num, rfl, rfl, rfl, HN2, by omega, by simp; omega⟩
          case measure => simp [intOf]; omega
        | true =>
          by_cases e39 : c = 39
          · have e32 : ¬ c = 32 := fun h => by rw [h] at e39; exact absurd e39 (by decide)
            have e10 : ¬ c = 10 := fun h => by rw [h] at e39; exact absurd e39 (by decide)
            have E1 : (c == 39) = true := by rw [beq_iff_eq]; exact e39
            have t1 : ((c.toNat : Int) == 39) = true := by rw [beq_iff_eq]; exact h39.1 e39
            have E2 : (c == 32) = false := by rw [beq_eq_false_iff_ne]; exact e32
            have t2 : ((c.toNat : Int) == 32) = false := by rw [beq_eq_false_iff_ne]; exact fun h => e32 (h32.2 h)
            have E3 : (c == 10) = false := by rw [beq_eq_false_iff_ne]; exact e10
            have t3 : ((c.toNat : Int) == 10) = false := by rw [beq_eq_false_iff_ne]; exact fun h => e10 (h10.2 h)
            have HN2 : Hid ((T.take (k + 1)).foldl (bstep (gapOf zs)) ([], 0, false) = (ob ++ [c], m, false)) := Lib.hid (by
              rw [HNX.out]
              unfold bstep
              simp [E1, E2, E3])
            clear h39 h32 h10 HNX E1 E2 E3 e39
            try clear e32
            try clear e10
            go_wp2
            go_round
            case rel => exact ⟨k + 1, m, ob ++ [c], false, by omega, by go_num, rfl, rfl, rfl, HN2, by omega, by simp; omega⟩
            case measure => simp [intOf]; omega
          have E1 : (c == 39) = false := by rw [beq_eq_false_iff_ne]; exact e39
          have t1 : ((c.toNat : Int) == 39) = false := by rw [beq_eq_false_iff_ne]; exact fun h => e39 (h39.2 h)
          have E2 : True := trivial
          have E3 : True := trivial
          skip
          have HN2 : Hid ((T.take (k + 1)).foldl (bstep (gapOf zs)) ([], 0, false) = (ob ++ [c], m, true)) := Lib.hid (by
            rw [HNX.out]
            unfold bstep
            simp [E1, E2, E3])
          clear h39 h32 h10 HNX E1 E2 E3 e39
          try clear e32
          try clear e10
          go_wp2
          go_round
          case rel => exact ⟨k + 1, m, ob ++ [c], true, by omega, by go_num, rfl, rfl, rfl, HN2, by omega, by simp; omega⟩
          case measure => simp [intOf]; omega
      · have hki : ¬ (k : Int) < (T.length : Int) := by omega
        obtain rfl : k = T.length := by omega
        have HB : Hid (blanked (gapOf zs) T = ob) := Lib.hid (by
          have h := hst.out
          rw [List.take_of_length_le (Nat.le_refl _)] at h
          unfold blanked
          rw [h])
        go_wp2
        go_meet
        exact ⟨by rw [HB.out], rfl⟩
  case rest =>
    obtain ⟨rfl, rfl⟩ := hcut
    obtain ⟨U, hU⟩ : ∃ U, blanked (gapOf zs) T = U := ⟨_, rfl⟩
    rw [hU] at HQ ⊢
    clear hU
    go_wp2_with fail
    refine (HQ.out _ (HE.out.quiet HK3.out)).mono ?_
    rintro e w4 ⟨⟨v0, v1, v2, rfl, hi0, hi1, hi2⟩, hk4⟩
    obtain ⟨B0, d0, rfl⟩ := lst_form hi0
    obtain ⟨B1, d1, rfl⟩ := lst_form hi1
    obtain ⟨B2, d2, rfl⟩ := lst_form hi2
    have hka := (Keeps.refl [] w4).alloc (.cells #[.slice B0 f'.ins.length d0, .slice B1 f'.jobs.length d1, .slice B2 f'.outs.length d2] 27)
    have hpr := print_any f' HG.out wc.heap.size _ _ _ _ (HE.out.quiet ((HK3.out.trans hk4).trans hka)) (ins_keep hi0 hka) (jobs_keep hi1 hka) (outs_keep hi2 hka)
    rw [HGP.out] at hpr
    have HT5 := Lib.hid hpr
    have HK5 := Lib.hid ((HK3.out.trans hk4).trans hka)
    clear hi0 hi1 hi2 hk4 hka hpr
    go_wp2_with fail
    refine HT5.out.mono ?_
    rintro e w6 ⟨rfl, hk6⟩
    have HK6 := Lib.hid (HK5.out.trans hk6)
    clear hk6
    go_wp2
    go_ret
    exact ⟨by simp, HK6.out⟩
end Go.Proofs.YtdmboaoeholkpaaDoor
namespace Go.Proofs.YtdmboaoeholkpaaDoor
open Go.RowKit Go.ChangeShapes Go.WideShapes
theorem Fr.own : ownKnob Tryd.prog.godebug = none := by kernel_rfl
theorem Fr.laidOut : laidOutB Tryd.prog = true := by kernel_rfl
section
variable {P : Program} {H : Type} {enc : TypeId × Value → H} {W : World} {r : Reach} {base : Nat} {t e : TypeId} {v : Value} {d : DataW H} {p : List MemPlace}
theorem open_strs (ht : P.underlying t = some (.slice e)) (he : P.underlying e = some .string) (hc : P.cellsOf e = 1)
    (hok : Value.okWide P W r base t v) (h : DataW.Trod enc P W 0 (fun _ => true) true t v d p) :
    ∃ (a : Option Addr) (c : Nat) (l : List Bs), v = .slice a l.length c ∧ Rd W [] 1 a l.length (l.map fun s => .string (bs s)) ∧ l.length ≤ maxLen ∧ ∀ s ∈ l, s.length ≤ maxLen := by
  obtain ⟨a, n, c, rfl⟩ := okWide_slice ht hok
  obtain ⟨m, hm⟩ := h
  rcases open_strings ht he hc hm with ⟨hcs, _⟩ | ⟨x, len, cap, ss, hcs, _, hl, hcap, hlen, _, hcell, hw⟩
  · simp [Value.cells] at hcs
    obtain ⟨rfl, rfl, rfl⟩ := hcs
    exact ⟨none, 0, [], rfl, Rd.nil, Nat.zero_le _, fun _ h => by cases h⟩
  · simp [Value.cells] at hcs
    obtain ⟨rfl, rfl, rfl⟩ := hcs
    have hlen' : ss.length = c := by simpa using hlen
    have hll : ((ss.take n).map fun s => s.data.toList).length = n := by rw [List.length_map, List.length_take]; omega
    refine ⟨some x, c, (ss.take n).map fun s => s.data.toList, by rw [hll], ⟨by rw [List.length_map, Nat.mul_one], fun hn => ?_⟩, by rw [hll]; omega, fun s hs => ?_⟩
    · rw [hll] at hn
      refine ⟨x, rfl, by simp, ?_, fun j u hu => ?_⟩
      · have := World.block_lt_of_cell? _ _ (hcell 0 (by omega))
        rwa [block_add] at this
      · rw [List.map_map, List.getElem?_map, Option.map_eq_some_iff] at hu
        obtain ⟨s, hs, rfl⟩ := hu
        rw [List.getElem?_take] at hs
        split at hs
        · rw [hcell j (by omega), List.getD_eq_getElem?_getD, hs]; rfl
        · cases hs
    · obtain ⟨q, hq, rfl⟩ := List.mem_map.1 hs
      have := hw q (List.mem_of_mem_take hq)
      exact this

theorem open_nums {k : IntKind} (ht : P.underlying t = some (.slice e)) (he : P.underlying e = some (.int k)) (hc : P.cellsOf e = 1)
    (hok : Value.okWide P W r base t v) (h : DataW.Trod enc P W 0 (fun _ => true) true t v d p) :
    ∃ (a : Option Addr) (c : Nat) (l : List Int), v = .slice a l.length c ∧ Rd W [] 1 a l.length (l.map (Value.int k)) ∧ l.length ≤ maxLen ∧ ∀ n ∈ l, (Lit.int k n).wf = true := by
  obtain ⟨a, n, c, rfl⟩ := okWide_slice ht hok
  obtain ⟨m, hm⟩ := h
  rcases open_ints ht he hc hm with ⟨hcs, _⟩ | ⟨x, len, cap, ss, hcs, _, hl, hcap, hlen, _, hcell, hw⟩
  · simp [Value.cells] at hcs
    obtain ⟨rfl, rfl, rfl⟩ := hcs
    exact ⟨none, 0, [], rfl, Rd.nil, Nat.zero_le _, fun _ h => by cases h⟩
  · simp [Value.cells] at hcs
    obtain ⟨rfl, rfl, rfl⟩ := hcs
    have hlen' : ss.length = c := by simpa using hlen
    have hll : (ss.take n).length = n := by rw [List.length_take]; omega
    refine ⟨some x, c, ss.take n, by rw [hll], ⟨by rw [List.length_map, Nat.mul_one], fun hn => ?_⟩, by rw [hll]; omega, fun s hs => hw s (List.mem_of_mem_take hs)⟩
    rw [hll] at hn
    refine ⟨x, rfl, by simp, ?_, fun j u hu => ?_⟩
    · have := World.block_lt_of_cell? _ _ (hcell 0 (by omega))
      rwa [block_add] at this
    · rw [List.getElem?_map, Option.map_eq_some_iff] at hu
      obtain ⟨s, hs, rfl⟩ := hu
      rw [List.getElem?_take] at hs
      split at hs
      · rw [hcell j (by omega), List.getD_eq_getElem?_getD, hs]; rfl
      · cases hs

/-- A Boolean cell's value. -/
def isTrue : Value → Bool | .bool b => b | _ => false
theorem open_flags (ht : P.underlying t = some (.slice e)) (he : P.underlying e = some .bool) (hc : P.cellsOf e = 1)
    (hok : Value.okWide P W r base t v) (h : DataW.Trod enc P W 0 (fun _ => true) true t v d p) :
    ∃ (a : Option Addr) (c : Nat) (l : List Bool), v = .slice a l.length c ∧ Rd W [] 1 a l.length (l.map Value.bool) ∧ l.length ≤ maxLen := by
  obtain ⟨a, n, c, rfl⟩ := okWide_slice ht hok
  obtain ⟨m, hm⟩ := h
  rcases Go.Deep.open_slice1 ht hc hm with ⟨hcs, _⟩ | ⟨x, len, cap, m', n', V, D, Pl, hcs, _, hl, hcap, hlen, _, hcell⟩
  · simp [Value.cells] at hcs
    obtain ⟨rfl, rfl, rfl⟩ := hcs
    exact ⟨none, 0, [], rfl, Rd.nil, Nat.zero_le _⟩
  · simp [Value.cells] at hcs
    obtain ⟨rfl, rfl, rfl⟩ := hcs
    have hlen' : m' = c := by simpa using hlen
    have hb : ∀ i, i < m' → ∃ b, V i = .bool b := fun i hi => by
      obtain ⟨b, hb, _⟩ := DataW.trod_bool he (hcell i hi).2
      exact ⟨b, by simpa using hb⟩
    have hll : ((List.range n).map fun i => isTrue (V i)).length = n := by simp
    refine ⟨some x, c, (List.range n).map fun i => isTrue (V i), by rw [hll], ⟨by rw [List.length_map, Nat.mul_one], fun hn => ?_⟩, by rw [hll]; omega⟩
    rw [hll] at hn
    refine ⟨x, rfl, by simp, ?_, fun j u hu => ?_⟩
    · have h0 : W.cell? (x.add 0) = some (V 0) := (hcell 0 (by omega)).1
      have := World.block_lt_of_cell? _ _ h0
      rwa [block_add] at this
    · rw [List.map_map, List.getElem?_map, Option.map_eq_some_iff] at hu
      obtain ⟨s, hs, rfl⟩ := hu
      have hj : j < n := by
        have := (List.getElem?_eq_some_iff.1 hs).1
        simpa using this
      rw [List.getElem?_range hj] at hs
      obtain rfl := Option.some.inj hs
      obtain ⟨b, hb⟩ := hb j (by omega)
      have hj' : W.cell? (x.add j) = some (V j) := (hcell j (by omega)).1
      rw [hj']
      show some (V j) = some (.bool (isTrue (V j)))
      rw [hb]
      rfl
/-- An argument reads as it did. -/
theorem Keeps.trod {W' : World} (hl : laidOutB P = true) (hr : P.readableRec t = true) (hrow : t < P.types.size)
    (h : DataW.Trod enc P W 0 (fun _ => true) true t v d p) (hb : Keeps [] W W') (hlt : ∀ x ∈ p, x.block < W.heap.size) :
    DataW.Trod enc P W' 0 (fun b => decide (b < W.heap.size)) true t v d p :=
  WideElems.Trod_stays hl hr hrow h (fun x hx => hb.same (hlt x hx)) (fun x hx => by simpa using hlt x hx)
end
end Go.Proofs.YtdmboaoeholkpaaDoor
namespace Go.Proofs.YtdmboaoeholkpaaDoor
open Go.RowKit Go.ChangeShapes Go.WideShapes
/-- A row's wrap: the condition and the world's shape, both handed to the contract. -/
theorem returns_shaped {H : Type} {enc : TypeId × Value → H} {a : Assume} {C : Checked} {os : Os} {f : FuncId} {fn : Func} {s : ChangeSpec} {conds : List PathCond} {apart fresh handsOn again : Bool} {X : World → Array Value → Prop}
    (hX : ∀ (w w' : World) (args : Array Value), w.heap = w'.heap → X w args → X w' args)
    (own : ownKnob C.prog.godebug = none) (started : os.Started) (noInit : C.prog.inits.idxOf? f = none) (hfn : C.prog.funcs[f]? = some fn)
    (witness : ∃ (w : World) (tape : Tape) (i : Input), w.os = os ∧ (w.forCall tape i).Shaped C.prog ∧ i.vars = [] ∧ Input.okWide C.prog (w.forCall tape i) .any w.heap.size f i ∧
      ((s.pre enc C.prog fn conds apart (w.forCall tape i).memory i.args ∧ X (w.forCall tape i).memory i.args) ∧ sizedMet enc C.prog fn (OpenSpec.ofChange s) apart (w.forCall tape i).memory i.args) ∧ a.holds C.prog (lone (Frame.enter C.prog f i.args .normal) [] (w.forCall tape i)))
    (contract : ∀ (W : World) (base : Nat) (args : Array Value) (ds gs : List (DataW H)) (before : List MemPlace),
      (∀ (j : Nat) t v, fn.params[j]? = some t → args[j]? = some v → Value.okWide C.prog W .any base t v) →
      DataW.Whole enc C.prog fn.params.toList s.vars apart W args.toList ds gs before → X W args → W.ShapedOpen C.prog →
      Calls C.prog f args W fun e W' => ∃ v, e = .returned v ∧ s.post enc C.prog fn apart fresh handsOn again W args v W') :
    ReturnsInHanded a C os f .any (fun w args => (s.pre enc C.prog fn conds apart w args ∧ X w args) ∧ sizedMet enc C.prog fn (OpenSpec.ofChange s) apart w args) (s.post enc C.prog fn apart fresh handsOn again) := by
  refine returnsInHanded_of_calls own started noInit witness ?_
  intro w tape i _ hsh _ hok hpre _
  obtain ⟨_, _, _, fn', hfn', _, _, _, _, hval⟩ := hok
  obtain rfl : fn' = fn := Option.some.inj (hfn'.symm.trans hfn)
  obtain ⟨⟨⟨ds, gs, before, hw, _⟩, hx⟩, _⟩ := hpre
  have hw' := DataW.Whole.of_heap (w' := w.forCall tape i) (by rfl) hw
  refine (contract (w.forCall tape i) w.heap.size i.args ds gs before hval hw' (hX _ _ _ (by rfl) hx) hsh).mono fun e W' ⟨v, he, hp⟩ => ?_
  subst he
  exact ChangeSpec.post_blind hp
theorem one_of {P : Program} {W : World} {laid : List (String × DataW Unit)} (nm : String) (d : DataW Unit) (hf : laid.filter (fun x => x.1 == nm) = [(nm, d)]) (h : laidMet P laid W) : laidMet P [(nm, d)] W := hf ▸ h.filter fun x => x.1 == nm
/-- An array of strings that reads as texts holds them, cell for cell. -/
theorem cells_of_strs {H : Type} {enc : TypeId × Value → H} {P : Program} {w : World} {base : Nat} {sp : Nat → Bool} {held : Bool} {fuel : Nat} {t e : TypeId} {n : Nat} {cs : List Value} {zs : List Bs} {p : List MemPlace}
    (ht : P.underlying t = some (.array n e)) (he : P.underlying e = some .string) (hce : P.cellsOf e = 1) (hct : P.cellsOf t = n)
    (h : DataW.trod enc P w base sp held fuel t cs = some (.agg (zs.map fun z => .lit (.string z)), p)) : cs = zs.map fun z => Value.string (bs z) := by
  cases fuel with
  | zero => simp [DataW.trod] at h
  | succ fuel =>
    simp only [DataW.trod, ht, hce, hct, Nat.mul_one] at h
    split at h
    · rename_i hl
      obtain ⟨xs, hm, hx⟩ := Option.map_eq_some_iff.1 h
      have hxs : xs.map (·.1) = zs.map fun z => (DataW.lit (.string z) : DataW H) := by
        have := congrArg Prod.fst hx
        simpa using this
      have hxl : xs.length = n := by simpa using Lib.mapM_length hm
      have hzl : zs.length = n := by
        have := congrArg List.length hxs
        simp at this
        omega
      apply List.ext_getElem?
      intro i
      by_cases hi : i < n
      · obtain ⟨b, hb, hf⟩ := Lib.mapM_at hm i i (by simp [hi])
        obtain ⟨s, hc, rfl, _⟩ := DataW.trod_string he hf
        have h1 : cs[i]? = some (.string s) := by
          have := congrArg (·[0]?) hc
          simpa [List.getElem?_take, List.getElem?_drop] using this
        have h2 : (xs.map (·.1))[i]? = some (DataW.lit (.string s.data.toList) : DataW H) := by simp [hb]
        rw [hxs] at h2
        simp only [List.getElem?_map, Option.map_eq_some_iff, DataW.lit.injEq, Lit.string.injEq] at h2
        obtain ⟨z', hz', rfl⟩ := h2
        simp [h1, hz', bs_data]
      · rw [List.getElem?_eq_none (by omega), List.getElem?_eq_none (by simp; omega)]
    · cases h
/-- A variable that holds an error. -/
theorem iface_at {P : Program} {W : World} {nm : String} {g : Nat} {t : TypeId} {ms : Array (String × TypeId)} {name : String} {d : DataW Unit} (hg : P.globalNamed nm = some g) (hty : (P.globals[g]?).map (·.type) = some t) (ht : P.underlying t = some (.interface ms))
    (h : laidMet P [(nm, .iface name d)] W) : ∃ u v, W.cell? ⟨g, 0, none⟩ = some (.iface u v) := by
  obtain ⟨ps, ⟨g', t', cs, fuel, p, q, hg', ht', hvar, hd, _, _⟩, _⟩ := h
  obtain rfl := Option.some.inj (hg.symm.trans hg')
  obtain rfl := Option.some.inj (hty.symm.trans ht')
  obtain ⟨_, u, v, hc, _, _⟩ := iface_of_trod ht hd
  refine ⟨u, v, ?_⟩
  rw [World.var?_cell hg hvar 0]
  have : cs = #[.iface u v] := by rw [← hc]
  rw [this]
  rfl
end Go.Proofs.YtdmboaoeholkpaaDoor
