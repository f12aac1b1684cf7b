/- FlowLimits: its walk. The frame of a law: arguments opened as lists, the handle of the type error. A row's wrap; what a laid list says of variables: for any seat. -/
import Derived.Test.YtbhejdljekmohaaGreatDoorFlrM33
import Derived.StillTailTactics
import Derived.Laws.Bits64
import Derived.Test.YtbhejdljekmohaaGreatDoorFlrM1
import Derived.Test.YtbhejdljekmohaaGreatDoorRows
import Derived.WalkKit
import Derived.ProofKit
import Derived.OpenShut
import Derived.ShutString
import Derived.ChangeOld
import Derived.ChangeSlices
import Derived.SliceStrings
import Derived.Deep.Slices
import Derived.Carry
import Derived.Handed
import Derived.LaidLaws
import Derived.LaidHandle
import Derived.JoinedOf
import Derived.Stop.Joined
import Derived.Test.YtbhejdljekmohaaGreatDoorProg
import Derived.Lib.LaidTab
import Derived.LaidSub
import Derived.LaidMore
import Derived.Shelf.Vars
import Derived.HandedShaped
namespace Go.Proofs.YtbhejdljekmohaaGreatDoor
open Go.RowKit Go.BigFrame
attribute [local go_sem] bs_size bs_extract bs_append bs_toList
theorem wrap_mod (n d : Int) (hd : 0 < d) (hd2 : d ≤ 100) : ∃ k : Nat, (k : Int) < d ∧ wrap64 ((IntKind.u64.wrap n).tmod d) = k ∧ (IntKind.u64.wrap n).tmod d = k := by
  have hu : 0 ≤ IntKind.u64.wrap n := by rw [IntKind.wrap_u64]; omega
  have h1 := Int.emod_nonneg (IntKind.u64.wrap n) (show d ≠ 0 by omega)
  have h2 := Int.emod_lt_of_pos (IntKind.u64.wrap n) hd
  rw [Int.tmod_eq_emod_of_nonneg hu]
  refine ⟨(IntKind.u64.wrap n % d).toNat, by omega, ?_, by omega⟩
  unfold wrap64
  omega
theorem rep_ex (s : Bs) (n : Nat) (hs : s.length ≤ 20) (hn : n ≤ 1000) : ∃ r : Bs, r.length ≤ 20000 ∧ Hid (∀ (i : Int), i = n → ∀ W, Calls Tryz.prog 5 #[.string (bs s), .int .i64 i] W fun e W' => e = .returned (.string (bs r)) ∧ W' = W) :=
  ⟨repL n s, by rw [repL_len]; exact Nat.le_trans (Nat.mul_le_mul hn hs) (by decide), Lib.hid (fun i hi W => (repeat_int s n i hi (by omega) hn W).mono (fun e W' h => ⟨h.1, h.2.symm⟩))⟩
theorem idx7 (k : Nat) (hk : k < 7) : ∃ x : Bs, x.length ≤ 20 ∧ ∀ W, (Instr.index 24 (.agg #[.string ⟨#[48]⟩, .string ⟨#[52]⟩, .string ⟨#[53]⟩, .string ⟨#[54]⟩, .string ⟨#[48, 48, 53]⟩, .string ⟨#[120]⟩, .string ⟨#[57, 57, 57, 57, 57, 57, 57, 57, 57, 57, 57, 57, 57, 57, 57, 57, 57, 57, 57, 57]⟩]) (.int .i64 (k : Int))).run Tryz.prog W = .ok (.string (bs x)) W := by
  match k, hk with
  | 0, _ => exact ⟨[48], by decide, fun W => by kernel_rfl⟩
  | 1, _ => exact ⟨[52], by decide, fun W => by kernel_rfl⟩
  | 2, _ => exact ⟨[53], by decide, fun W => by kernel_rfl⟩
  | 3, _ => exact ⟨[54], by decide, fun W => by kernel_rfl⟩
  | 4, _ => exact ⟨[48, 48, 53], by decide, fun W => by kernel_rfl⟩
  | 5, _ => exact ⟨[120], by decide, fun W => by kernel_rfl⟩
  | 6, _ => exact ⟨[57, 57, 57, 57, 57, 57, 57, 57, 57, 57, 57, 57, 57, 57, 57, 57, 57, 57, 57, 57], by decide, fun W => by kernel_rfl⟩
theorem idx9 (k : Nat) (hk : k < 9) : ∃ x : Bs, x.length ≤ 20 ∧ ∀ W, (Instr.index 25 (.agg #[.string ⟨#[49, 48, 48, 48, 48, 48, 48, 48, 48, 48]⟩, .string ⟨#[49, 48, 48, 48, 48, 48, 48, 48, 48, 49]⟩, .string ⟨#[45, 49, 48, 48, 48, 48, 48, 48, 48, 48, 48]⟩, .string ⟨#[45, 49, 48, 48, 48, 48, 48, 48, 48, 48, 49]⟩, .string ⟨#[45, 32, 53]⟩, .string ⟨#[45, 45, 53]⟩, .string ⟨#[45, 32, 39, 97, 39]⟩, .string ⟨#[57, 57, 57, 57, 57, 57, 57, 57, 57, 57, 57, 57, 57, 57, 57, 57, 57, 57, 57, 57]⟩, .string ⟨#[48, 48]⟩]) (.int .i64 (k : Int))).run Tryz.prog W = .ok (.string (bs x)) W := by
  match k, hk with
  | 0, _ => exact ⟨[49, 48, 48, 48, 48, 48, 48, 48, 48, 48], by decide, fun W => by kernel_rfl⟩
  | 1, _ => exact ⟨[49, 48, 48, 48, 48, 48, 48, 48, 48, 49], by decide, fun W => by kernel_rfl⟩
  | 2, _ => exact ⟨[45, 49, 48, 48, 48, 48, 48, 48, 48, 48, 48], by decide, fun W => by kernel_rfl⟩
  | 3, _ => exact ⟨[45, 49, 48, 48, 48, 48, 48, 48, 48, 48, 49], by decide, fun W => by kernel_rfl⟩
  | 4, _ => exact ⟨[45, 32, 53], by decide, fun W => by kernel_rfl⟩
  | 5, _ => exact ⟨[45, 45, 53], by decide, fun W => by kernel_rfl⟩
  | 6, _ => exact ⟨[45, 32, 39, 97, 39], by decide, fun W => by kernel_rfl⟩
  | 7, _ => exact ⟨[57, 57, 57, 57, 57, 57, 57, 57, 57, 57, 57, 57, 57, 57, 57, 57, 57, 57, 57, 57], by decide, fun W => by kernel_rfl⟩
  | 8, _ => exact ⟨[48, 48], by decide, fun W => by kernel_rfl⟩
theorem bs_mkl (a : Array UInt8) (r : Bs) : (⟨a⟩ : ByteArray) ++ bs r = bs (a.toList ++ r) := bs_append a.toList r
theorem bs_mkr (a : Array UInt8) (r : Bs) : bs r ++ (⟨a⟩ : ByteArray) = bs (r ++ a.toList) := bs_append r a.toList
attribute [local go_sem] bs_mkl bs_mkr
set_option maxRecDepth 100000 in
set_option maxHeartbeats 8000000 in
theorem limits_t (n m : Int) (s : Bs) (w : World) (hE : FEnv w) (hR : REnv w) (hT : ErrTy w) :
    Calls Tryz.prog 3 #[.int .i64 n, .int .i64 m, .string (bs s)] w fun ev w' => ev = .returned (.bool true) ∧ Keeps [] w w' := by
  have HE := Lib.hid hE
  have HR := Lib.hid hR
  have HT := Lib.hid hT
  clear hE hR hT
  by_cases h20 : 20 < s.length
  · have hi : (20 : Int) < (s.length : Int) := by omega
    go_enter Tryz.func3, Tryz.ntmps3
    go_wp2
    go_ret
    exact ⟨rfl, Keeps.refl _ _⟩
  · have hi : ¬ (20 : Int) < (s.length : Int) := by omega
    go_enter Tryz.func3, Tryz.ntmps3
    go_upto_region 3 with (fail)
    go_cut [7] (fun kv wx => ∃ k : Nat, k < 20 ∧ kv = .int .i64 k ∧ wx = w)
    case first =>
      go_wp2
      go_meet
      obtain ⟨k, h1, h2, _⟩ := wrap_mod n 20 (by decide) (by decide)
      exact ⟨k, by omega, by rw [h2], rfl⟩
    case rest =>
      obtain ⟨k, hk, rfl, rfl⟩ := hcut
      obtain ⟨m8, h8, h9, h10⟩ := wrap_mod m 8 (by decide) (by decide)
      have hk4 : (k : Int).tmod 4 = ((k % 4 : Nat) : Int) := by rw [Int.tmod_eq_emod_of_nonneg (by omega)]; omega
      have hk7 : (k : Int).tmod 7 = ((k % 7 : Nat) : Int) := by rw [Int.tmod_eq_emod_of_nonneg (by omega)]; omega
      have hk9 : (k : Int).tmod 9 = ((k % 9 : Nat) : Int) := by rw [Int.tmod_eq_emod_of_nonneg (by omega)]; omega
      have q4 : k % 4 < 4 := Nat.mod_lt _ (by decide)
      have q7 : k % 7 < 7 := Nat.mod_lt _ (by decide)
      have q9 : k % 9 < 9 := Nat.mod_lt _ (by decide)
      generalize k % 4 = k4 at *
      generalize k % 7 = k7 at *
      generalize k % 9 = k9 at *
      go_upto_region 4 with (fail)
      go_cut [8] (fun v wx => ∃ (ts : List Bs) (g : Nat), ts.length = 10 ∧ Hid (∀ t ∈ ts, t.length ≤ 1000000) ∧ v = .slice (some ⟨g, 0, none⟩) 10 10 ∧ Hid (Blk wx g 9 (strs ts).toArray) ∧ Hid (Keeps [] wc wx))
      case first =>
        -- BEGIN r4
        have hw1 : IntKind.i64.wrap (m8 : Int) = m8 := by simp [IntKind.wrap, IntKind.bits, IntKind.signed]; omega
        have hw2 : IntKind.i64.wrap (192 + (m8 : Int)) = 192 + m8 := by simp [IntKind.wrap, IntKind.bits, IntKind.signed]; omega
        have hw3 : IntKind.i64.wrap (8 + (k : Int)) = 8 + k := by simp [IntKind.wrap, IntKind.bits, IntKind.signed]; omega
        obtain ⟨x7, hx7, hX7⟩ := idx7 k7 q7
        obtain ⟨x9, hx9, hX9⟩ := idx9 k9 q9
        obtain ⟨r1, hr1, HC1⟩ := rep_ex [105, 110, 32, 97, 58, 32, 98, 32, 105, 110, 116, 59, 32] k (by decide) (by omega)
        obtain ⟨r2, hr2, HC2⟩ := rep_ex [106, 111, 98, 32, 97, 32, 61, 32, 100, 105, 115, 116, 105, 110, 99, 116, 32, 98, 59, 32] k (by decide) (by omega)
        obtain ⟨r3, hr3, HC3⟩ := rep_ex [111, 117, 116, 32, 97, 32, 61, 32, 98, 59, 32] k (by decide) (by omega)
        obtain ⟨r4, hr4, HC4⟩ := rep_ex [44, 32, 100] (192 + m8) (by decide) (by omega)
        obtain ⟨r5, hr5, HC5⟩ := rep_ex [49] k4 (by decide) (by omega)
        obtain ⟨r6, hr6, HC6⟩ := rep_ex [120] (8 + k) (by decide) (by omega)
        refine wp_region_still_tail 56 (by kernel_rfl) (by kernel_rfl) ?_
        simp only [List.take_succ_cons, List.take_zero, List.drop_succ_cons, List.drop_zero]
        repeat (first | still_step | (refine wpStill_step (fun K hK => ?_); go_simp; rw [if_neg (by omega)]; refine ⟨rfl, hK _ ?_⟩; clear hK K))
        refine wpStill_step (fun K hK => ?_)
        go_simp
        refine ⟨_, HC1.out _ rfl _, hK _ ?_⟩
        clear hK K
        repeat (first | still_step | (refine wpStill_step (fun K hK => ?_); go_simp; rw [if_neg (by omega)]; refine ⟨rfl, hK _ ?_⟩; clear hK K))
        refine wpStill_step (fun K hK => ?_)
        go_simp
        refine ⟨_, HC2.out _ rfl _, hK _ ?_⟩
        clear hK K
        repeat (first | still_step | (refine wpStill_step (fun K hK => ?_); go_simp; rw [if_neg (by omega)]; refine ⟨rfl, hK _ ?_⟩; clear hK K))
        refine wpStill_step (fun K hK => ?_)
        go_simp
        refine ⟨_, HC3.out _ rfl _, hK _ ?_⟩
        clear hK K
        repeat (first | still_step | (refine wpStill_step (fun K hK => ?_); go_simp; rw [if_neg (by omega)]; refine ⟨rfl, hK _ ?_⟩; clear hK K))
        refine wpStill_step (fun K hK => ?_)
        go_simp
        refine ⟨_, HC4.out _ (by omega) _, hK _ ?_⟩
        clear hK K
        repeat (first | still_step | (refine wpStill_step (fun K hK => ?_); go_simp; rw [if_neg (by omega)]; refine ⟨rfl, hK _ ?_⟩; clear hK K))
        refine wpStill_step (fun K hK => ?_)
        go_simp
        refine ⟨_, HC5.out _ rfl _, hK _ ?_⟩
        clear hK K
        repeat (first | still_step | (refine wpStill_step (fun K hK => ?_); go_simp; rw [if_neg (by omega)]; refine ⟨rfl, hK _ ?_⟩; clear hK K))
        refine wpStill_step (fun K hK => ?_)
        go_simp
        refine ⟨_, HC6.out _ (by omega) _, hK _ ?_⟩
        clear hK K
        repeat (first | still_step | (refine wpStill_step (fun K hK => ?_); go_simp; rw [if_neg (by omega)]; refine ⟨rfl, hK _ ?_⟩; clear hK K))
        refine wpStill_nil ?_
        go_wp2
        go_meet
        refine ⟨[_, _, _, _, _, _, _, _, _, _], _, rfl, Lib.hid ?_, rfl, Lib.hid (Blk.new _ _ _), Lib.hid ((Keeps.refl _ _).drew.alloc _)⟩
        intro t ht
        simp only [List.mem_cons, List.not_mem_nil, or_false] at ht
        rcases ht with rfl | rfl | rfl | rfl | rfl | rfl | rfl | rfl | rfl | rfl
        all_goals
          try simp only [List.length_append, List.length_cons, List.length_nil]
          omega
        -- END r4
      case rest =>
        obtain ⟨ts, g, hts, HL, rfl, HB, HK⟩ := hcut
        obtain ⟨y, rfl⟩ : ∃ z : World, z = wc := ⟨_, rfl⟩
        go_wp2_with fail
        go_loopw [9] (fun i wr => ∃ j : Nat, j ≤ 10 ∧ i = .int .i64 j ∧ Hid (Keeps [] y wr)) (fun i _ => 10 - (intOf i).toNat)
        case atStart => exact ⟨0, Nat.zero_le _, rfl, Lib.hid (Keeps.refl _ _)⟩
        case round =>
          obtain ⟨j, hj, rfl, HKR⟩ := hrel
          by_cases hlt : j < 10
          · have hi : (j : Int) < 10 := by omega
            obtain ⟨wr, rfl⟩ : ∃ z : World, z = wr := ⟨_, rfl⟩
            have HQ := Lib.hid (HK.out.trans HKR.out)
            have c0 : wr.cell? ⟨g, j, none⟩ = some (.string (bs (ts[j]'(by omega)))) := by
              rw [(HB.out.keep HKR.out (by simp)).cell j, List.getElem?_toArray]
              simp [strs, show j < ts.length by omega]
            have ht := HL.out _ (List.getElem_mem (show j < ts.length by omega))
            obtain ⟨t, ht0⟩ : ∃ t, t = ts[j]'(by omega) := ⟨_, rfl⟩
            rw [← ht0] at c0 ht
            have l0 := World.block_lt_of_cell? _ _ c0
            obtain ⟨R, hR⟩ : ∃ R, parseF t = R := ⟨_, rfl⟩
            have H1 : Hid (Calls Tryz.prog 6 #[.string (bs t)] wr fun e w' => ParR R wr.heap.size e w' ∧ Keeps [] wr w') := Lib.hid (by
              rw [← hR]
              exact rParse_any t ht wr (HE.out.quiet HQ.out) (HR.out.quiet HQ.out))
            have H2 : Hid (∀ W, Keeps [] wr W → Calls Tryz.prog 7 #[.string (bs t)] W fun e w' => ParseOut R W.heap.size e w' ∧ Keeps [] W w') := Lib.hid (fun W z => by
              rw [← hR]
              exact parse_any t ht W (HE.out.quiet (HQ.out.trans z)))
            have c1 : Hid (∀ W, Keeps [] wr W → W.cell? ⟨g, j, none⟩ = some (.string (bs t))) := Lib.hid (fun W z => z.cell_of c0 (by simp))
            clear ht ht0 hR
            go_upto_region 8 with (fail)
            go_cut [10, 11] (fun a b wx => ∃ na nb base V0 V1 V2, a = .pointer (some ⟨na, 0, none⟩) ∧ b = .pointer (some ⟨nb, 0, none⟩) ∧ Hid (Blk wx na 31 #[V0, V1, V2]) ∧ Hid (Blk wx nb 34 #[.int .i64 (resF R).2.1, .int .i64 (resF R).2.2]) ∧ Hid (FlAt wx base V0 V1 V2 (resF R).1) ∧ Hid (Keeps [] wr wx))
            case first =>
              go_wp2_with ((with_reducible refine H1.out.mono ?_); rintro e w1 ⟨hp, k1⟩; obtain ⟨A0, n0, c0', A1, n1, c1', A2, n2, c2', rfl, hf⟩ := parR_form hp; clear hp; have hf := Lib.hid hf)
              go_meet
              exact ⟨_, _, _, _, _, _, rfl, rfl, Lib.hid ((Blk.new _ _ _).alloc _), Lib.hid (Blk.new' _ _ _ _ (by simp)), Lib.hid (hf.out.keep (((Keeps.refl _ _).alloc _).alloc _)), Lib.hid ((k1.alloc _).alloc _)⟩
            case rest =>
              obtain ⟨na, nb, base, V0, V1, V2, rfl, rfl, HA, HBB, HFL, HK1⟩ := hcut
              obtain ⟨wa, rfl⟩ : ∃ z : World, z = wc := ⟨_, rfl⟩
              clear c0 l0 H1
              have c2 := c1.out _ HK1.out
              have l2 := World.block_lt_of_cell? _ _ c2
              go_upto_region 9 with (fail)
              go_cut [12, 13] (fun a b wx => ∃ nc base2 U0 U1 U2, a = .pointer (some ⟨nc, 0, none⟩) ∧ Hid (Blk wx nc 31 #[U0, U1, U2]) ∧ Hid (FlAt wx base2 U0 U1 U2 (resF R).1) ∧ Hid (ErAt wx b R) ∧ Hid (Keeps [] wa wx))
              case first =>
                go_wp2_with ((with_reducible refine (H2.out _ HK1.out).mono ?_); rintro e w1 ⟨hp, k1⟩; obtain ⟨A0, n0, c0', A1, n1, c1', A2, n2, c2', er, rfl, hf, her⟩ := parseOut_form hp; clear hp; have hf := Lib.hid hf; have her := Lib.hid her)
                go_meet
                exact ⟨_, _, _, _, _, rfl, Lib.hid (Blk.new _ _ _), Lib.hid (hf.out.keep ((Keeps.refl _ _).alloc _)), Lib.hid (her.out.keep ((Keeps.refl _ _).alloc _)), Lib.hid (k1.alloc _)⟩
              case rest =>
                obtain ⟨nc, base2, U0, U1, U2, rfl, HC, HFU, HER, HK2⟩ := hcut
                clear c2 l2 c1 H2
                have HKW := Lib.hid (HQ.out.trans (HK1.out.trans HK2.out))
                have f0 : wc.cell? ⟨nb, 0, none⟩ = some (.int .i64 (resF R).2.1) := (HBB.out.keep HK2.out (by simp)).cell 0
                have f1 : wc.cell? ⟨nb, 1, none⟩ = some (.int .i64 (resF R).2.2) := (HBB.out.keep HK2.out (by simp)).cell 1
                have HI := Lib.hid (is_er HER.out (HT.out.keep HKW.out (by simp)))
                have HSF : Hid (∀ W, Keeps [] wc W → Calls Tryz.prog 9 #[.agg #[U0, U1, U2], .agg #[V0, V1, V2]] W fun e w' => e = .returned (.bool true) ∧ Keeps [] W w') := Lib.hid (fun W z => sameFlow_at (HFU.out.keep z) (HFL.out.keep (HK2.out.trans z)))
                have HA0 : Hid (∀ W, Keeps [] wc W → W.cell? ⟨na, 0, none⟩ = some V0 ∧ W.cell? ⟨na, 1, none⟩ = some V1 ∧ W.cell? ⟨na, 2, none⟩ = some V2) := Lib.hid (fun W z => ⟨(HA.out.keep (HK2.out.trans z) (by simp)).cell 0, (HA.out.keep (HK2.out.trans z) (by simp)).cell 1, (HA.out.keep (HK2.out.trans z) (by simp)).cell 2⟩)
                have HC0 : Hid (∀ W, Keeps [] wc W → W.cell? ⟨nc, 0, none⟩ = some U0 ∧ W.cell? ⟨nc, 1, none⟩ = some U1 ∧ W.cell? ⟨nc, 2, none⟩ = some U2) := Lib.hid (fun W z => ⟨(HC.out.keep z (by simp)).cell 0, (HC.out.keep z (by simp)).cell 1, (HC.out.keep z (by simp)).cell 2⟩)
                go_wp2_with (first | ((with_reducible refine HI.out.mono ?_); rintro e w5 ⟨rfl, k5⟩; obtain ⟨a0, a1, a2⟩ := HA0.out _ k5; obtain ⟨b0, b1, b2⟩ := HC0.out _ k5) | ((with_reducible refine (HSF.out _ k5).mono ?_); rintro e w6 ⟨rfl, k6⟩))
                have HX := Lib.hid (HKR.out.trans (HK1.out.trans (HK2.out.trans (k5.trans k6))))
                go_roundw
                case rel => exact ⟨j + 1, by omega, by go_num, HX⟩
                case measure => simp [intOf]; omega
          · obtain rfl : j = 10 := by omega
            have HF := Lib.hid (HK.out.trans HKR.out)
            go_wp2
            go_ret
            exact ⟨rfl, HF.out⟩
end Go.Proofs.YtbhejdljekmohaaGreatDoor
namespace Go.Proofs.YtbhejdljekmohaaGreatDoor
open Go.RowKit Go.ChangeShapes Go.WideShapes
theorem Fr.own : ownKnob Tryz.prog.godebug = none := by kernel_rfl
theorem Fr.laidOut : laidOutB Tryz.prog = true := by kernel_rfl
section
variable {P : Program} {H : Type} {enc : TypeId × Value → H} {W : World} {r : Reach} {base : Nat} {t e : TypeId} {v : Value} {d : DataW H} {p : List MemPlace}
theorem open_strs (ht : P.underlying t = some (.slice e)) (he : P.underlying e = some .string) (hc : P.cellsOf e = 1)
    (hok : Value.okWide P W r base t v) (h : DataW.Trod enc P W 0 (fun _ => true) true t v d p) :
    ∃ (a : Option Addr) (c : Nat) (l : List Bs), v = .slice a l.length c ∧ Rd W [] 1 a l.length (l.map fun s => .string (bs s)) ∧ l.length ≤ maxLen ∧ ∀ s ∈ l, s.length ≤ maxLen := by
  obtain ⟨a, n, c, rfl⟩ := okWide_slice ht hok
  obtain ⟨m, hm⟩ := h
  rcases open_strings ht he hc hm with ⟨hcs, _⟩ | ⟨x, len, cap, ss, hcs, _, hl, hcap, hlen, _, hcell, hw⟩
  · simp [Value.cells] at hcs
    obtain ⟨rfl, rfl, rfl⟩ := hcs
    exact ⟨none, 0, [], rfl, Rd.nil, Nat.zero_le _, fun _ h => by cases h⟩
  · simp [Value.cells] at hcs
    obtain ⟨rfl, rfl, rfl⟩ := hcs
    have hlen' : ss.length = c := by simpa using hlen
    have hll : ((ss.take n).map fun s => s.data.toList).length = n := by rw [List.length_map, List.length_take]; omega
    refine ⟨some x, c, (ss.take n).map fun s => s.data.toList, by rw [hll], ⟨by rw [List.length_map, Nat.mul_one], fun hn => ?_⟩, by rw [hll]; omega, fun s hs => ?_⟩
    · rw [hll] at hn
      refine ⟨x, rfl, by simp, ?_, fun j u hu => ?_⟩
      · have := World.block_lt_of_cell? _ _ (hcell 0 (by omega))
        rwa [block_add] at this
      · rw [List.map_map, List.getElem?_map, Option.map_eq_some_iff] at hu
        obtain ⟨s, hs, rfl⟩ := hu
        rw [List.getElem?_take] at hs
        split at hs
        · rw [hcell j (by omega), List.getD_eq_getElem?_getD, hs]; rfl
        · cases hs
    · obtain ⟨q, hq, rfl⟩ := List.mem_map.1 hs
      have := hw q (List.mem_of_mem_take hq)
      exact this

theorem open_nums {k : IntKind} (ht : P.underlying t = some (.slice e)) (he : P.underlying e = some (.int k)) (hc : P.cellsOf e = 1)
    (hok : Value.okWide P W r base t v) (h : DataW.Trod enc P W 0 (fun _ => true) true t v d p) :
    ∃ (a : Option Addr) (c : Nat) (l : List Int), v = .slice a l.length c ∧ Rd W [] 1 a l.length (l.map (Value.int k)) ∧ l.length ≤ maxLen ∧ ∀ n ∈ l, (Lit.int k n).wf = true := by
  obtain ⟨a, n, c, rfl⟩ := okWide_slice ht hok
  obtain ⟨m, hm⟩ := h
  rcases open_ints ht he hc hm with ⟨hcs, _⟩ | ⟨x, len, cap, ss, hcs, _, hl, hcap, hlen, _, hcell, hw⟩
  · simp [Value.cells] at hcs
    obtain ⟨rfl, rfl, rfl⟩ := hcs
    exact ⟨none, 0, [], rfl, Rd.nil, Nat.zero_le _, fun _ h => by cases h⟩
  · simp [Value.cells] at hcs
    obtain ⟨rfl, rfl, rfl⟩ := hcs
    have hlen' : ss.length = c := by simpa using hlen
    have hll : (ss.take n).length = n := by rw [List.length_take]; omega
    refine ⟨some x, c, ss.take n, by rw [hll], ⟨by rw [List.length_map, Nat.mul_one], fun hn => ?_⟩, by rw [hll]; omega, fun s hs => hw s (List.mem_of_mem_take hs)⟩
    rw [hll] at hn
    refine ⟨x, rfl, by simp, ?_, fun j u hu => ?_⟩
    · have := World.block_lt_of_cell? _ _ (hcell 0 (by omega))
      rwa [block_add] at this
    · rw [List.getElem?_map, Option.map_eq_some_iff] at hu
      obtain ⟨s, hs, rfl⟩ := hu
      rw [List.getElem?_take] at hs
      split at hs
      · rw [hcell j (by omega), List.getD_eq_getElem?_getD, hs]; rfl
      · cases hs

/-- A Boolean cell's value. -/
def isTrue : Value → Bool | .bool b => b | _ => false
theorem open_flags (ht : P.underlying t = some (.slice e)) (he : P.underlying e = some .bool) (hc : P.cellsOf e = 1)
    (hok : Value.okWide P W r base t v) (h : DataW.Trod enc P W 0 (fun _ => true) true t v d p) :
    ∃ (a : Option Addr) (c : Nat) (l : List Bool), v = .slice a l.length c ∧ Rd W [] 1 a l.length (l.map Value.bool) ∧ l.length ≤ maxLen := by
  obtain ⟨a, n, c, rfl⟩ := okWide_slice ht hok
  obtain ⟨m, hm⟩ := h
  rcases Go.Deep.open_slice1 ht hc hm with ⟨hcs, _⟩ | ⟨x, len, cap, m', n', V, D, Pl, hcs, _, hl, hcap, hlen, _, hcell⟩
  · simp [Value.cells] at hcs
    obtain ⟨rfl, rfl, rfl⟩ := hcs
    exact ⟨none, 0, [], rfl, Rd.nil, Nat.zero_le _⟩
  · simp [Value.cells] at hcs
    obtain ⟨rfl, rfl, rfl⟩ := hcs
    have hlen' : m' = c := by simpa using hlen
    have hb : ∀ i, i < m' → ∃ b, V i = .bool b := fun i hi => by
      obtain ⟨b, hb, _⟩ := DataW.trod_bool he (hcell i hi).2
      exact ⟨b, by simpa using hb⟩
    have hll : ((List.range n).map fun i => isTrue (V i)).length = n := by simp
    refine ⟨some x, c, (List.range n).map fun i => isTrue (V i), by rw [hll], ⟨by rw [List.length_map, Nat.mul_one], fun hn => ?_⟩, by rw [hll]; omega⟩
    rw [hll] at hn
    refine ⟨x, rfl, by simp, ?_, fun j u hu => ?_⟩
    · have h0 : W.cell? (x.add 0) = some (V 0) := (hcell 0 (by omega)).1
      have := World.block_lt_of_cell? _ _ h0
      rwa [block_add] at this
    · rw [List.map_map, List.getElem?_map, Option.map_eq_some_iff] at hu
      obtain ⟨s, hs, rfl⟩ := hu
      have hj : j < n := by
        have := (List.getElem?_eq_some_iff.1 hs).1
        simpa using this
      rw [List.getElem?_range hj] at hs
      obtain rfl := Option.some.inj hs
      obtain ⟨b, hb⟩ := hb j (by omega)
      have hj' : W.cell? (x.add j) = some (V j) := (hcell j (by omega)).1
      rw [hj']
      show some (V j) = some (.bool (isTrue (V j)))
      rw [hb]
      rfl
/-- An argument reads as it did. -/
theorem Keeps.trod {W' : World} (hl : laidOutB P = true) (hr : P.readableRec t = true) (hrow : t < P.types.size)
    (h : DataW.Trod enc P W 0 (fun _ => true) true t v d p) (hb : Keeps [] W W') (hlt : ∀ x ∈ p, x.block < W.heap.size) :
    DataW.Trod enc P W' 0 (fun b => decide (b < W.heap.size)) true t v d p :=
  WideElems.Trod_stays hl hr hrow h (fun x hx => hb.same (hlt x hx)) (fun x hx => by simpa using hlt x hx)
end
end Go.Proofs.YtbhejdljekmohaaGreatDoor
namespace Go.Proofs.YtbhejdljekmohaaGreatDoor
open Go.RowKit Go.ChangeShapes Go.WideShapes
/-- A row's wrap: the condition and the world's shape, both handed to the contract. -/
theorem returns_shaped {H : Type} {enc : TypeId × Value → H} {a : Assume} {C : Checked} {os : Os} {f : FuncId} {fn : Func} {s : ChangeSpec} {conds : List PathCond} {apart fresh handsOn again : Bool} {X : World → Array Value → Prop}
    (hX : ∀ (w w' : World) (args : Array Value), w.heap = w'.heap → X w args → X w' args)
    (own : ownKnob C.prog.godebug = none) (started : os.Started) (noInit : C.prog.inits.idxOf? f = none) (hfn : C.prog.funcs[f]? = some fn)
    (witness : ∃ (w : World) (tape : Tape) (i : Input), w.os = os ∧ (w.forCall tape i).Shaped C.prog ∧ i.vars = [] ∧ Input.okWide C.prog (w.forCall tape i) .any w.heap.size f i ∧
      ((s.pre enc C.prog fn conds apart (w.forCall tape i).memory i.args ∧ X (w.forCall tape i).memory i.args) ∧ sizedMet enc C.prog fn (OpenSpec.ofChange s) apart (w.forCall tape i).memory i.args) ∧ a.holds C.prog (lone (Frame.enter C.prog f i.args .normal) [] (w.forCall tape i)))
    (contract : ∀ (W : World) (base : Nat) (args : Array Value) (ds gs : List (DataW H)) (before : List MemPlace),
      (∀ (j : Nat) t v, fn.params[j]? = some t → args[j]? = some v → Value.okWide C.prog W .any base t v) →
      DataW.Whole enc C.prog fn.params.toList s.vars apart W args.toList ds gs before → X W args → W.ShapedOpen C.prog →
      Calls C.prog f args W fun e W' => ∃ v, e = .returned v ∧ s.post enc C.prog fn apart fresh handsOn again W args v W') :
    ReturnsInHanded a C os f .any (fun w args => (s.pre enc C.prog fn conds apart w args ∧ X w args) ∧ sizedMet enc C.prog fn (OpenSpec.ofChange s) apart w args) (s.post enc C.prog fn apart fresh handsOn again) := by
  refine returnsInHanded_of_calls own started noInit witness ?_
  intro w tape i _ hsh _ hok hpre _
  obtain ⟨_, _, _, fn', hfn', _, _, _, _, hval⟩ := hok
  obtain rfl : fn' = fn := Option.some.inj (hfn'.symm.trans hfn)
  obtain ⟨⟨⟨ds, gs, before, hw, _⟩, hx⟩, _⟩ := hpre
  have hw' := DataW.Whole.of_heap (w' := w.forCall tape i) (by rfl) hw
  refine (contract (w.forCall tape i) w.heap.size i.args ds gs before hval hw' (hX _ _ _ (by rfl) hx) hsh).mono fun e W' ⟨v, he, hp⟩ => ?_
  subst he
  exact ChangeSpec.post_blind hp
theorem one_of {P : Program} {W : World} {laid : List (String × DataW Unit)} (nm : String) (d : DataW Unit) (hf : laid.filter (fun x => x.1 == nm) = [(nm, d)]) (h : laidMet P laid W) : laidMet P [(nm, d)] W := hf ▸ h.filter fun x => x.1 == nm
/-- An array of strings that reads as texts holds them, cell for cell. -/
theorem cells_of_strs {H : Type} {enc : TypeId × Value → H} {P : Program} {w : World} {base : Nat} {sp : Nat → Bool} {held : Bool} {fuel : Nat} {t e : TypeId} {n : Nat} {cs : List Value} {zs : List Bs} {p : List MemPlace}
    (ht : P.underlying t = some (.array n e)) (he : P.underlying e = some .string) (hce : P.cellsOf e = 1) (hct : P.cellsOf t = n)
    (h : DataW.trod enc P w base sp held fuel t cs = some (.agg (zs.map fun z => .lit (.string z)), p)) : cs = zs.map fun z => Value.string (bs z) := by
  cases fuel with
  | zero => simp [DataW.trod] at h
  | succ fuel =>
    simp only [DataW.trod, ht, hce, hct, Nat.mul_one] at h
    split at h
    · rename_i hl
      obtain ⟨xs, hm, hx⟩ := Option.map_eq_some_iff.1 h
      have hxs : xs.map (·.1) = zs.map fun z => (DataW.lit (.string z) : DataW H) := by
        have := congrArg Prod.fst hx
        simpa using this
      have hxl : xs.length = n := by simpa using Lib.mapM_length hm
      have hzl : zs.length = n := by
        have := congrArg List.length hxs
        simp at this
        omega
      apply List.ext_getElem?
      intro i
      by_cases hi : i < n
      · obtain ⟨b, hb, hf⟩ := Lib.mapM_at hm i i (by simp [hi])
        obtain ⟨s, hc, rfl, _⟩ := DataW.trod_string he hf
        have h1 : cs[i]? = some (.string s) := by
          have := congrArg (·[0]?) hc
          simpa [List.getElem?_take, List.getElem?_drop] using this
        have h2 : (xs.map (·.1))[i]? = some (DataW.lit (.string s.data.toList) : DataW H) := by simp [hb]
        rw [hxs] at h2
        simp only [List.getElem?_map, Option.map_eq_some_iff, DataW.lit.injEq, Lit.string.injEq] at h2
        obtain ⟨z', hz', rfl⟩ := h2
        simp [h1, hz', bs_data]
      · rw [List.getElem?_eq_none (by omega), List.getElem?_eq_none (by simp; omega)]
    · cases h
/-- A variable that holds an error. -/
theorem iface_at {P : Program} {W : World} {nm : String} {g : Nat} {t : TypeId} {ms : Array (String × TypeId)} {name : String} {d : DataW Unit} (hg : P.globalNamed nm = some g) (hty : (P.globals[g]?).map (·.type) = some t) (ht : P.underlying t = some (.interface ms))
    (h : laidMet P [(nm, .iface name d)] W) : ∃ u v, W.cell? ⟨g, 0, none⟩ = some (.iface u v) := by
  obtain ⟨ps, ⟨g', t', cs, fuel, p, q, hg', ht', hvar, hd, _, _⟩, _⟩ := h
  obtain rfl := Option.some.inj (hg.symm.trans hg')
  obtain rfl := Option.some.inj (hty.symm.trans ht')
  obtain ⟨_, u, v, hc, _, _⟩ := iface_of_trod ht hd
  refine ⟨u, v, ?_⟩
  rw [World.var?_cell hg hvar 0]
  have : cs = #[.iface u v] := by rw [← hc]
  rw [this]
  rfl
end Go.Proofs.YtbhejdljekmohaaGreatDoor
