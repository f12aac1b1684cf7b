/- store: one. -/
import Derived.Test.YtjoolemhcpcnoaaDoorStoreB
import Derived.Deep.QuietTactic
namespace Go.Proofs.YtjoolemhcpcnoaaDoor
open Go.RowKit
attribute [local go_sem] bs_size bs_extract bs_append bs_toList errV_0 errV_2 errV_4 errV_14
/-- A callee that leaves the world alone, inside a region that only reads, behind draws. -/
theorem quiet_l2 {P : Program} {f : FuncId} {args : Array Value} {w : World} {a n : Nat} {v : Value} (h : ∀ W, Calls P f args W fun e w' => e = .returned v ∧ W = w') :
    Calls P f args (w.drewN (a + n)) fun e w'' => e = .returned v ∧ ∃ m, w'' = w.drewN (a + m) := (h _).mono fun _ _ ⟨he, hm⟩ => ⟨he, n, hm.symm⟩
theorem quiet_l1 {P : Program} {f : FuncId} {args : Array Value} {w : World} {n : Nat} {v : Value} (h : ∀ W, Calls P f args W fun e w' => e = .returned v ∧ W = w') :
    Calls P f args (w.drewN n) fun e w'' => e = .returned v ∧ ∃ m, w'' = w.drewN m := (h _).mono fun _ _ ⟨he, hm⟩ => ⟨he, n, hm.symm⟩
theorem quiet_k2 {P : Program} {f : FuncId} {args : Array Value} {w : World} {a n : Nat} {v : Value} (h : Calls P f args (w.drewN (a + n)) fun e w' => e = .returned v ∧ w.drewN (a + n) = w') :
    Calls P f args (w.drewN (a + n)) fun e w'' => e = .returned v ∧ ∃ m, w'' = w.drewN (a + m) := h.mono fun _ _ ⟨he, hm⟩ => ⟨he, n, hm.symm⟩
theorem read_at {w : World} {L : List Nat} {g : Nat} {D : Dk} (h : Dsk w L g D) (a : Nat) (ha : a < D.sure.length) (hwl : D.wait.length ≤ 4294967296) :
    Calls Tryd.prog 16 #[.pointer (some ⟨g, 0, none⟩), .int .i64 (a : Int)] w fun ev w' => ev = .returned (.tuple #[.string (bs (D.at a)), .nilIface]) ∧ Keeps [] w w' := by
  refine (read_any D h a hwl).mono ?_
  have e : D.read (a : Int) = (0, D.at a) := by unfold Dk.read; rw [if_neg (by omega), Int.toNat_natCast]
  rw [e]
  rintro ev w' ⟨rfl, h2⟩
  exact ⟨rfl, h2⟩
/-- The length that a first sector says. -/
def lenR (h : Bs) : Nat := (h.getD 2 0).toNat + 256 * (h.getD 3 0).toNat
theorem lenR_lt (h : Bs) : lenR h < 65536 := by
  unfold lenR
  have h1 := (h.getD 2 0).toNat_lt
  have h2 := (h.getD 3 0).toNat_lt
  omega
/-- So many sectors behind one, one behind the other. -/
def joinR (D : Dk) (a : Nat) (k : Nat) : Bs := (List.range k).flatMap fun i => D.at (a + 1 + i)
theorem joinR_succ (D : Dk) (a k : Nat) : joinR D a (k + 1) = joinR D a k ++ D.at (a + 1 + k) := by simp [joinR, List.range_succ]
def bad (D : Dk) (a : Nat) : Prop := (D.at a).take 2 ≠ [114, 99] ∨ 8000 < lenR (D.at a) ∨ D.sure.length < a + secs (lenR (D.at a))
instance (D : Dk) (a : Nat) : Decidable (bad D a) := by unfold bad; infer_instance
def oneF (D : Dk) (a : Nat) : Bs × Bool :=
  if bad D a then ([], false)
  else
    let s := (joinR D a (secs (lenR (D.at a)) - 1)).take (lenR (D.at a))
    (s, headL s == (D.at a).take 36)
theorem joinR_length {D : Dk} (h : D.Ok) {a k : Nat} (hk : a + 1 + k ≤ D.sure.length) : (joinR D a k).length = 64 * k := by
  induction k with
  | zero => rfl
  | succ k ih =>
    rw [joinR_succ, List.length_append, ih (by omega), h.at_length (by omega)]
    omega
theorem or_lo (a b : Nat) (ha : a < 256) : a ||| (b * 256) = a + 256 * b := by
  rw [Nat.or_comm, Nat.mul_comm, ← Nat.two_pow_add_eq_or_of_lt (i := 8) ha b]
  omega
theorem bits_or64 (a b : Nat) (ha : a < 2 ^ 62) (hb : b < 2 ^ 62) : bits BinOp.or IntKind.i64 (a : Int) (b : Int) = ((a ||| b : Nat) : Int) := by
  have h := Nat.or_lt_two_pow ha hb
  show IntKind.i64.wrap (((BitVec.ofInt 64 (a : Int)) ||| (BitVec.ofInt 64 (b : Int))).toNat : Int) = _
  rw [BitVec.ofInt_natCast, BitVec.ofInt_natCast, BitVec.toNat_or, BitVec.toNat_ofNat, BitVec.toNat_ofNat, Nat.mod_eq_of_lt (by omega), Nat.mod_eq_of_lt (by omega)]
  exact IntWalk.i64_in _ (by omega)
theorem len_bits (S : Bs) (h : S.length = 64) (g2 : 2 < (bs S).size) (g3 : 3 < (bs S).size) :
    bits BinOp.or IntKind.i64 (wrap64 (((bs S)[2]'g2).toNat : Int)) (wrap64 (wrap64 (((bs S)[3]'g3).toNat : Int) * 256)) = (lenR S : Int) := by
  have e2 : ((bs S)[2]'g2) = S.getD 2 0 := by rw [bs_get, List.getD_eq_getElem?_getD, List.getElem?_eq_getElem (by omega)]; rfl
  have e3 : ((bs S)[3]'g3) = S.getD 3 0 := by rw [bs_get, List.getD_eq_getElem?_getD, List.getElem?_eq_getElem (by omega)]; rfl
  have h1 := (S.getD 2 0).toNat_lt
  have h2 := (S.getD 3 0).toNat_lt
  have w2 : wrap64 ((S.getD 2 0).toNat : Int) = ((S.getD 2 0).toNat : Int) := IntWalk.wrap64_in _ ⟨by omega, by omega⟩
  have w3 : wrap64 ((S.getD 3 0).toNat : Int) = ((S.getD 3 0).toNat : Int) := IntWalk.wrap64_in _ ⟨by omega, by omega⟩
  have w4 : wrap64 (((S.getD 3 0).toNat : Int) * 256) = ((S.getD 3 0).toNat : Int) * 256 := IntWalk.wrap64_in _ ⟨by omega, by omega⟩
  rw [e2, e3, w2, w3, w4]
  rw [show ((S.getD 3 0).toNat : Int) * 256 = (((S.getD 3 0).toNat * 256 : Nat) : Int) by omega, bits_or64 _ _ (by omega) (by omega), or_lo _ _ (by omega)]
  rfl
theorem bs_beq (a b : Bs) : (bs a == bs b) = decide (a = b) := by
  show (a.toArray == b.toArray) = _
  rw [Bool.eq_iff_iff]
  simp
theorem bs_bne (a b : Bs) : (bs a != bs b) = !decide (a = b) := by rw [bne, bs_beq]
set_option maxRecDepth 100000 in
set_option maxHeartbeats 2000000 in
theorem one_any {w : World} {L : List Nat} {g gx : Nat} {D : Dk} (h : Dsk w L g D) (hok : D.Ok) (hwl : D.wait.length ≤ 4294967296) (hR : Rnds w) (hx : w.cell? ⟨gx, 0, none⟩ = some (.pointer (some ⟨g, 0, none⟩))) (a : Nat) (ha : a < D.sure.length) :
    Calls Tryd.prog 59 #[.pointer (some ⟨gx, 0, none⟩), .int .i64 (a : Int)] w fun ev w' => ev = .returned (.tuple #[.string (bs (oneF D a).1), .bool (oneF D a).2, .nilIface]) ∧ Keeps [] w w' := by
  have hl := hok.at_length ha
  have h64 := h.small
  have HR := Lib.hid hR
  have HX := Lib.hid hx
  have HD := Lib.hid h
  have HOK := Lib.hid hok
  clear hR h hok
  go_enter Tryd.func59, Tryd.ntmps59
  go_wp2_with fail
  refine (read_at HD.out a ha hwl).mono ?_
  rintro ev W1 ⟨rfl, k1⟩
  have K1 := Lib.hid k1
  clear hx k1
  obtain ⟨S, hS⟩ : ∃ S, D.at a = S := ⟨_, rfl⟩
  rw [hS] at hl ⊢
  have g2 : (2 : Nat) < (bs S).size := by rw [bs_size]; omega
  have g3 : (3 : Nat) < (bs S).size := by rw [bs_size]; omega
  have hn := Lib.hid (len_bits S hl g2 g3)
  go_wp2
  go_quiet (fail)
  rw [hn.out]
  clear g2 g3 hn
  obtain ⟨n, hnn⟩ : ∃ n, lenR S = n := ⟨_, rfl⟩
  rw [hnn]
  have hsn : secs n ≤ 1100 := by have := lenR_lt S; unfold secs; omega
  have hsp : 1 ≤ secs n := by unfold secs; omega
  have hx1 := K1.out.cell_of (p := ⟨gx, 0, none⟩) HX.out (by simp)
  have HB : Hid (bad D a ↔ (S.take 2 ≠ [114, 99] ∨ 8000 < n ∨ D.sure.length < a + secs n)) := Lib.hid (by unfold bad; rw [hS, hnn])
  have hSn := Lib.hid hnn
  have hSS := Lib.hid hS
  clear hnn hS
  have fin : ∀ w' : World, bad D a → Keeps [] W1 w' → Ending.returned (.tuple #[.string ⟨#[]⟩, .bool false, .nilIface]) = .returned (.tuple #[.string (bs (oneF D a).1), .bool (oneF D a).2, .nilIface]) ∧ Keeps [] w w' := fun w' hb hk => by
    unfold oneF
    rw [if_pos hb]
    exact ⟨rfl, K1.out.trans hk⟩
  by_cases hb1 : S.take 2 = [114, 99]
  · have hq : (S.take 2 == [114, 99]) = true := by rw [hb1]; rfl
    have HB1 := Lib.hid hb1
    clear hb1
    by_cases hn8 : (8000 : Int) < (n : Int)
    · have hd8 : decide ((8000 : Int) < (n : Int)) = true := by simpa using hn8
      go_wp2_with fail
      go_quiet (fail)
      go_wp2
      go_ret3
      exact fin _ (HB.out.2 (.inr (.inl (by omega)))) (((Keeps.refl _ _).drewN _).drewN _)
    · have hd8 : decide ((8000 : Int) < (n : Int)) = false := by simpa using hn8
      by_cases hsz : (D.sure.length : Int) < (a : Int) + (secs n : Int)
      · go_wp2_with fail
        go_quiet ((first | (go_at_call 61; exact quiet_l2 (fun W => sectors_any n (by omega) W)) | (go_at_call 40; exact quiet_k2 (size_any D (HD.out.keep (L' := []) (K1.out.drewN _) (by simp))))))
        go_wp2
        go_ret3
        exact fin _ (HB.out.2 (.inr (.inr (by omega)))) (((Keeps.refl _ _).drewN _).drewN _)
      · have hdz : decide ((D.sure.length : Int) < (a : Int) + (secs n : Int)) = false := by simpa using hsz
        go_wp2_with fail
        go_quiet ((first | (go_at_call 61; exact quiet_l2 (fun W => sectors_any n (by omega) W)) | (go_at_call 40; exact quiet_k2 (size_any D (HD.out.keep (L' := []) (K1.out.drewN _) (by simp))))))
        have HNB := Lib.hid (show ¬ bad D a from fun hb => by
          have h1 := HB1.out
          rcases HB.out.1 hb with h2 | h2 | h2
          · exact h2 h1
          · omega
          · omega)
        have HG : ∀ n1 n2, Keeps [] W1 ((W1.drewN n1).drewN n2) := fun n1 n2 => ((Keeps.refl _ _).drewN _).drewN _
        have HKG := Lib.hid HG
        clear HG fin hq hd8 hdz
        go_wp2
        go_loopw [10, 11] (fun sv i wr => ∃ k : Nat, k + 1 ≤ secs n ∧ i = .int .i64 ((k + 1 : Nat) : Int) ∧ sv = .string (bs (joinR D a k)) ∧ Keeps [] W1 wr) (fun _ i _ => secs n - (intOf i).toNat)
        case atStart => exact ⟨0, by omega, rfl, rfl, HKG.out _ _⟩
        case round =>
          obtain ⟨k, hk, rfl, rfl, hkr⟩ := hrel
          have hjl := joinR_length HOK.out (a := a) (k := k) (by omega)
          have hxr := hkr.cell_of hx1 (by simp)
          have hDr := Lib.hid ((HD.out.keep (L' := []) K1.out (by simp)).keep (L' := []) hkr (by simp))
          have HKR := Lib.hid hkr
          have HJL := Lib.hid hjl
          have hjb : (joinR D a k).length ≤ 100000 := by omega
          clear hkr hjl
          rw [show ((k + 1 : Nat) : Int) = (k : Int) + 1 by omega]
          by_cases hlt : k + 1 < secs n
          · have hd64 := HOK.out.at_length (a := a + 1 + k) (by omega)
            have HD64 := Lib.hid hd64
            have hdb : (D.at (a + 1 + k)).length ≤ 64 := by omega
            clear hd64
            go_wp2_with (go_at_call 61; refine (sectors_any n (by omega) _).mono ?_; rintro ev w5 ⟨rfl, rfl⟩)
            rw [show (a : Int) + ((k : Int) + 1) = ((a + 1 + k : Nat) : Int) by omega]
            refine (read_at hDr.out (a + 1 + k) (by omega) hwl).mono ?_
            rintro ev w6 ⟨rfl, k6⟩
            have K6 := Lib.hid (HKR.out.trans k6)
            clear k6
            have hxr6 := K6.out.cell_of hx1 (by simp)
            go_wp2
            go_roundw
            case rel => exact ⟨k + 1, by omega, by congr 1, by rw [joinR_succ], K6.out⟩
            case measure => simp [intOf]; omega
          · have hnl : n ≤ (joinR D a k).length := by have := HJL.out; unfold secs at hk hlt; omega
            have HKS := Lib.hid (show secs n - 1 = k by omega)
            go_wp2_with (go_at_call 61; refine (sectors_any n (by omega) _).mono ?_; rintro ev w5 ⟨rfl, rfl⟩)
            have hRr := Lib.hid (HR.out.quiet (K1.out.trans HKR.out))
            have ht : ((joinR D a k).take n).length ≤ 1000000 := by rw [List.length_take]; omega
            go_region_with (go_at_call 62; refine (head_any _ ht _ (by exact hRr.out)).mono ?_; rintro e w5 ⟨rfl, hk⟩)
            all_goals go_wp2
            have hof : oneF D a = ((joinR D a k).take n, headL ((joinR D a k).take n) == S.take 36) := by
              unfold oneF
              rw [if_neg HNB.out]
              simp only [hSS.out, hSn.out, HKS.out]
            rw [hof]
            all_goals go_ret3
            all_goals exact ⟨rfl, (K1.out.trans HKR.out).trans (Keeps.trans ((Keeps.refl _ _).drew) hk)⟩
  · have hq : (S.take 2 == [114, 99]) = false := beq_eq_false_iff_ne.2 hb1
    have HB1 := Lib.hid hb1
    clear hb1
    go_wp2_with fail
    go_quiet (fail)
    go_wp2
    go_ret3
    exact fin _ (HB.out.2 (.inl HB1.out)) (((Keeps.refl _ _).drewN _).drewN _)
end Go.Proofs.YtjoolemhcpcnoaaDoor
