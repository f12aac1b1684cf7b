/- The cutter's letter, digit, run and next. The cutter: tokens. Parse's deferred closure. -/
import Derived.Test.YtdmboaoeholkpaaDoorFlwM7
import Derived.Lib.IndexLaws
import Derived.Test.YtdmboaoeholkpaaDoorFlwM13
import Derived.Test.YtdmboaoeholkpaaDoorFlwM15
import Derived.Defers
import Derived.Recover
namespace Go.Proofs.YtdmboaoeholkpaaDoor
open Go.RowKit Go.BigFrame
attribute [local go_sem] bs_size bs_extract bs_append bs_toList
theorem letter_any (b : UInt8) (w : World) : Calls Tryd.prog 29 #[.int .u8 (b.toNat : Int)] w fun e w' => e = .returned (.bool (letC b)) ∧ w = w' := by
  obtain ⟨R, hR⟩ : ∃ R, letC b = R := ⟨_, rfl⟩
  rw [hR]
  have HR : Hid (R = (decide (97 ≤ b.toNat) && decide (b.toNat ≤ 122))) := Lib.hid hR.symm
  clear hR
  by_cases h1 : 97 ≤ b.toNat
  · have t1 : (97 : Int) ≤ (b.toNat : Int) := by omega
    by_cases h2 : b.toNat ≤ 122
    · have t2 : (b.toNat : Int) ≤ (122 : Int) := by omega
      go_enter Tryd.func29, Tryd.ntmps29
      go_wp2
      go_ret
      exact ⟨by rw [HR.out, decide_eq_true h1, decide_eq_true h2]; rfl, rfl⟩
    · have t2 : ¬ (b.toNat : Int) ≤ (122 : Int) := by omega
      go_enter Tryd.func29, Tryd.ntmps29
      go_wp2
      go_ret
      exact ⟨by rw [HR.out, decide_eq_true h1, decide_eq_false h2]; rfl, rfl⟩
  · have t1 : ¬ (97 : Int) ≤ (b.toNat : Int) := by omega
    go_enter Tryd.func29, Tryd.ntmps29
    go_wp2
    go_ret
    exact ⟨by rw [HR.out, decide_eq_false h1]; rfl, rfl⟩
theorem digit_any (b : UInt8) (w : World) : Calls Tryd.prog 32 #[.int .u8 (b.toNat : Int)] w fun e w' => e = .returned (.bool (digC b)) ∧ w = w' := by
  obtain ⟨R, hR⟩ : ∃ R, digC b = R := ⟨_, rfl⟩
  rw [hR]
  have HR : Hid (R = (decide (48 ≤ b.toNat) && decide (b.toNat ≤ 57))) := Lib.hid hR.symm
  clear hR
  by_cases h1 : 48 ≤ b.toNat
  · have t1 : (48 : Int) ≤ (b.toNat : Int) := by omega
    by_cases h2 : b.toNat ≤ 57
    · have t2 : (b.toNat : Int) ≤ (57 : Int) := by omega
      go_enter Tryd.func32, Tryd.ntmps32
      go_wp2
      go_ret
      exact ⟨by rw [HR.out, decide_eq_true h1, decide_eq_true h2]; rfl, rfl⟩
    · have t2 : ¬ (b.toNat : Int) ≤ (57 : Int) := by omega
      go_enter Tryd.func32, Tryd.ntmps32
      go_wp2
      go_ret
      exact ⟨by rw [HR.out, decide_eq_true h1, decide_eq_false h2]; rfl, rfl⟩
  · have t1 : ¬ (48 : Int) ≤ (b.toNat : Int) := by omega
    go_enter Tryd.func32, Tryd.ntmps32
    go_wp2
    go_ret
    exact ⟨by rw [HR.out, decide_eq_false h1]; rfl, rfl⟩
theorem ld_any (b : UInt8) (w : World) : Calls Tryd.prog 31 #[.int .u8 (b.toNat : Int)] w fun e w' => e = .returned (.bool (ldC b)) ∧ w = w' := by
  obtain ⟨R, hR⟩ : ∃ R, ldC b = R := ⟨_, rfl⟩
  rw [hR]
  have HR : Hid (R = (letC b || digC b)) := Lib.hid hR.symm
  have HL := Lib.hid (letter_any b w)
  have HD := Lib.hid (digit_any b w)
  clear hR
  cases hl : letC b with
  | true =>
    rw [hl] at HL
    have HE := Lib.hid hl
    clear hl HD
    go_enter Tryd.func31, Tryd.ntmps31
    go_wp2_with fail
    refine HL.out.mono ?_
    rintro e W2 ⟨rfl, rfl⟩
    go_wp2
    go_ret
    exact ⟨by rw [HR.out, HE.out]; rfl, rfl⟩
  | false =>
    rw [hl] at HL
    have HE := Lib.hid hl
    clear hl
    go_enter Tryd.func31, Tryd.ntmps31
    go_wp2_with fail
    refine HL.out.mono ?_
    rintro e W2 ⟨rfl, rfl⟩
    go_wp2_with fail
    refine HD.out.mono ?_
    rintro e W2 ⟨rfl, rfl⟩
    go_wp2
    go_ret
    exact ⟨by rw [HR.out, HE.out]; rfl, rfl⟩
theorem runN_at (p : UInt8 → Bool) : ∀ (s : Bs) (n : Nat), n ≤ s.length → (∀ j (_ : j < n) (hl : j < s.length), p s[j] = true) → (∀ (hl : n < s.length), p s[n] = false) → runN p s = n
  | [], n, h, _, _ => by simp at h; rw [h]; rfl
  | c :: s, 0, _, _, h2 => by
    unfold runN
    have := h2 (by simp)
    rw [if_neg (by simpa using this)]
  | c :: s, n + 1, h, h1, h2 => by
    unfold runN
    have h0 := h1 0 (by omega) (by simp)
    rw [if_pos (by simpa using h0), runN_at p s n (by simpa using h) (fun j hj hl => h1 (j + 1) (Nat.succ_lt_succ hj) (Nat.succ_lt_succ hl)) (fun hl => h2 (Nat.succ_lt_succ hl))]
theorem runN_le (p : UInt8 → Bool) : ∀ (s : Bs), runN p s ≤ s.length
  | [] => Nat.le_refl _
  | c :: s => by
    unfold runN
    split
    · simpa using runN_le p s
    · exact Nat.zero_le _
set_option maxHeartbeats 2000000 in
theorem run_any (k : Nat) (he : ∀ args w, (callFunc k args).run Tryd.prog w = .ok (.enter k args) w) (p : UInt8 → Bool) (s : Bs) (hsl : s.length ≤ 2000000) (w : World) (hf : ∀ c : UInt8, Calls Tryd.prog k #[.int .u8 (c.toNat : Int)] w fun e W' => e = .returned (.bool (p c)) ∧ w = W') :
    Calls Tryd.prog 30 #[.string (bs s), .func (.func k) #[] #[]] w fun e w' => e = .returned (.int .i64 (runN p s : Nat)) ∧ w = w' := by
  have HF := Lib.hid hf
  obtain ⟨R, hR⟩ : ∃ R, runN p s = R := ⟨_, rfl⟩
  rw [hR]
  have HR := Lib.hid hR
  clear hf hR
  go_enter Tryd.func30, Tryd.ntmps30
  go_wp2
  go_loop [5] (fun i => ∃ n : Nat, n ≤ s.length ∧ i = .int .i64 n ∧ Hid (∀ j (_ : j < n) (hl : j < s.length), p s[j] = true)) (fun i => s.length - (intOf i).toNat)
  case atStart => exact ⟨0, Nat.zero_le _, rfl, Lib.hid fun j hj => absurd hj (by omega)⟩
  case round =>
    obtain ⟨n, hn, rfl, hno⟩ := hrel
    by_cases hlt : n < s.length
    · have hi : (n : Int) < (s.length : Int) := by omega
      have HH := Lib.hid (HF.out s[n])
      have hbyte : ((bs s)[n]'(by rw [bs_size]; exact hlt)) = s[n] := bs_get s n _
      generalize hx : s[n] = x at *
      have HX := Lib.hid hx
      clear hx
      cases hp : p x with
      | true =>
        rw [hp] at HH
        have HP := Lib.hid hp
        clear hp
        go_wp2_with fail
        refine HH.out.mono ?_
        rintro e W2 ⟨rfl, rfl⟩
        go_wp2
        go_round
        case rel => exact ⟨n + 1, by omega, by go_num, Lib.hid fun j hj hl => by
          by_cases h : j < n
          · exact hno.out j h hl
          · obtain rfl : j = n := by omega
            rw [HX.out]; exact HP.out⟩
        case measure => simp [intOf]; omega
      | false =>
        rw [hp] at HH
        have HP := Lib.hid hp
        clear hp
        go_wp2_with fail
        refine HH.out.mono ?_
        rintro e W2 ⟨rfl, rfl⟩
        go_wp2
        go_ret
        exact ⟨by rw [← HR.out, runN_at p s n hn hno.out (fun hl => by rw [HX.out]; exact HP.out)]; rfl, rfl⟩
    · have hi : ¬ (n : Int) < (s.length : Int) := by omega
      go_wp2
      go_ret
      exact ⟨by rw [← HR.out, runN_at p s n hn hno.out (fun hl => absurd hl hlt)]; rfl, rfl⟩
set_option maxRecDepth 100000 in
set_option maxHeartbeats 4000000 in
theorem next_any (c : UInt8) (t : Bs) (hs : t.length ≤ 1000000) (w : World) (hE : FEnv w) :
    Calls Tryd.prog 18 #[.string (bs (c :: t))] w fun e w' => e = .returned (.tuple #[.int .i64 (nextL (c :: t)).1, .int .i64 (nextL (c :: t)).2]) ∧ w = w' := by
  obtain ⟨s, hcs⟩ : ∃ s, c :: t = s := ⟨_, rfl⟩
  have hlen : 0 < s.length := by rw [← hcs]; simp
  have hlen2 : s.length ≤ 1000001 := by rw [← hcs]; simp; omega
  have hi0 : (0 : Int) < (s.length : Int) := by omega
  have hbyte : ((bs s)[0]'(by rw [bs_size]; exact hlen)) = c := by rw [bs_get]; subst hcs; rfl
  have hhd : s.headD 0 = c := by rw [← hcs]; rfl
  have htl : s.tail = t := by rw [← hcs]; rfl
  obtain ⟨R, hR⟩ : ∃ R, nextL s = R := ⟨_, rfl⟩
  rw [hcs, hR]
  unfold nextL at hR
  rw [hhd, htl] at hR
  have HR := Lib.hid hR
  have HL := Lib.hid (letter_any c w)
  have HD := Lib.hid (digit_any c w)
  clear hR
  cases hl : letC c with
  | true =>
    rw [hl] at HL
    have HX : Hid (R = (1, (runN ldC s : Nat))) := Lib.hid (by rw [← HR.out, hl]; rfl)
    have HRUN := Lib.hid (run_any 31 (fun _ _ => rfl) ldC s (by omega) w (fun c => ld_any c w))
    clear hl HD HR hcs hhd htl
    go_enter Tryd.func18, Tryd.ntmps18
    go_wp2_with fail
    refine HL.out.mono ?_
    rintro e W2 ⟨rfl, rfl⟩
    go_wp2_with fail
    refine HRUN.out.mono ?_
    rintro e W2 ⟨rfl, rfl⟩
    go_wp2
    go_ret2
    exact ⟨by rw [HX.out]; rfl, rfl⟩
  | false =>
    rw [hl] at HL
    cases hd : digC c with
    | true =>
      rw [hd] at HD
      have HX : Hid (R = (2, (runN digC s : Nat))) := Lib.hid (by rw [← HR.out, hl, hd]; rfl)
      have HRUN := Lib.hid (run_any 32 (fun _ _ => rfl) digC s (by omega) w (fun c => digit_any c w))
      clear hl hd HR hcs hhd htl
      go_enter Tryd.func18, Tryd.ntmps18
      go_wp2_with fail
      refine HL.out.mono ?_
      rintro e W2 ⟨rfl, rfl⟩
      go_wp2_with fail
      refine HD.out.mono ?_
      rintro e W2 ⟨rfl, rfl⟩
      go_wp2_with fail
      refine HRUN.out.mono ?_
      rintro e W2 ⟨rfl, rfl⟩
      go_wp2
      go_ret2
      exact ⟨by rw [HX.out]; rfl, rfl⟩
    | false =>
      rw [hd] at HD
      have HR2 : Hid ((if c = 39 then ((3 : Int), if Lib.indexByte t 39 < 0 then 0 else (Lib.indexByte t 39).toNat + 2) else (4, markN s marksL)) = R) := Lib.hid (by rw [← HR.out, hl, hd]; rfl)
      have h39 : c = 39 ↔ (c.toNat : Int) = 39 := ⟨fun h => by rw [h]; rfl, fun h => UInt8.toNat_inj.1 (by have : (39 : UInt8).toNat = 39 := rfl; omega)⟩
      by_cases e39 : c = 39
      · have t1 : ((c.toNat : Int) == 39) = true := by rw [beq_iff_eq]; exact h39.1 e39
        obtain ⟨k, hk⟩ : ∃ k, Lib.indexByte t 39 = k := ⟨_, rfl⟩
        have HX : Hid (R = (3, if k < 0 then 0 else k.toNat + 2)) := Lib.hid (by rw [← HR2.out, if_pos e39, hk])
        have hex : (bs s).extract 1 s.length = bs t := by rw [bs_extract, List.take_of_length_le (Nat.le_refl _), ← hcs]; rfl
        have HI : Hid (Calls Tryd.prog 33 #[.string (bs t), .int .u8 39] w fun e W' => e = .returned (.int .i64 k) ∧ w = W') := Lib.hid ((Tryd.strings_IndexByte (bs t) 39 w).mono fun e W' ⟨h1, h2⟩ => ⟨by rw [h1]; exact congrArg (fun x => Ending.returned (.int .i64 x)) hk, h2.symm⟩)
        have hkr : k ≤ 1000000 := by
          by_cases hn : k < 0
          · omega
          · have h1 := (Lib.indexByte_some (l := t) (c := 39) (o := k.toNat) (by rw [hk]; omega)).1
            have := (List.getElem?_eq_some_iff.1 h1).1
            omega
        clear hl hd HR hcs hhd htl HR2 h39 e39
        by_cases hneg : k < 0
        · have hk0 : ¬ (0 : Int) ≤ k := by omega
          go_enter Tryd.func18, Tryd.ntmps18
          go_wp2_with fail
          refine HL.out.mono ?_
          rintro e W2 ⟨rfl, rfl⟩
          go_wp2_with fail
          refine HD.out.mono ?_
          rintro e W2 ⟨rfl, rfl⟩
          go_wp2_with fail
          refine HI.out.mono ?_
          rintro e W2 ⟨rfl, rfl⟩
          go_wp2
          go_ret2
          exact ⟨by rw [HX.out, if_pos hneg]; rfl, rfl⟩
        · have hk0 : (0 : Int) ≤ k := by omega
          go_enter Tryd.func18, Tryd.ntmps18
          go_wp2_with fail
          refine HL.out.mono ?_
          rintro e W2 ⟨rfl, rfl⟩
          go_wp2_with fail
          refine HD.out.mono ?_
          rintro e W2 ⟨rfl, rfl⟩
          go_wp2_with fail
          refine HI.out.mono ?_
          rintro e W2 ⟨rfl, rfl⟩
          go_wp2
          go_ret2
          exact ⟨by rw [HX.out, if_neg (by omega : ¬ k < 0)]; exact congrArg (fun x => Ending.returned (.tuple #[.int .i64 3, .int .i64 x])) (by show k + 2 = ((k.toNat + 2 : Nat) : Int); omega), rfl⟩
      · have t1 : ((c.toNat : Int) == 39) = false := by rw [beq_eq_false_iff_ne]; exact fun h => e39 (h39.2 h)
        have HX : Hid (R = (4, markN s marksL)) := Lib.hid (by rw [← HR2.out, if_neg e39])
        have HP : Hid (∀ m : Bs, Calls Tryd.prog 34 #[.string (bs s), .string (bs m)] w fun e W' => e = .returned (.bool (Lib.hasPrefix s m)) ∧ w = W') := Lib.hid fun m => (Tryd.strings_HasPrefix (bs s) (bs m) w).mono fun e W' ⟨h1, h2⟩ => ⟨h1, h2.symm⟩
        have m0 : w.cell? ⟨1, 0, none⟩ = some (.string (bs [60, 62])) := hE.marks 0 (by decide)
        have m1 : w.cell? ⟨1, 1, none⟩ = some (.string (bs [60, 61])) := hE.marks 1 (by decide)
        have m2 : w.cell? ⟨1, 2, none⟩ = some (.string (bs [62, 61])) := hE.marks 2 (by decide)
        have m3 : w.cell? ⟨1, 3, none⟩ = some (.string (bs [60])) := hE.marks 3 (by decide)
        have m4 : w.cell? ⟨1, 4, none⟩ = some (.string (bs [62])) := hE.marks 4 (by decide)
        have m5 : w.cell? ⟨1, 5, none⟩ = some (.string (bs [61])) := hE.marks 5 (by decide)
        have m6 : w.cell? ⟨1, 6, none⟩ = some (.string (bs [43])) := hE.marks 6 (by decide)
        have m7 : w.cell? ⟨1, 7, none⟩ = some (.string (bs [45])) := hE.marks 7 (by decide)
        have m8 : w.cell? ⟨1, 8, none⟩ = some (.string (bs [42])) := hE.marks 8 (by decide)
        have m9 : w.cell? ⟨1, 9, none⟩ = some (.string (bs [44])) := hE.marks 9 (by decide)
        have m10 : w.cell? ⟨1, 10, none⟩ = some (.string (bs [59])) := hE.marks 10 (by decide)
        have m11 : w.cell? ⟨1, 11, none⟩ = some (.string (bs [58])) := hE.marks 11 (by decide)
        have m12 : w.cell? ⟨1, 12, none⟩ = some (.string (bs [46])) := hE.marks 12 (by decide)
        have lm := World.block_lt_of_cell? _ _ m0
        clear hl hd HR hcs hhd htl HR2 h39 e39 hE
        go_enter Tryd.func18, Tryd.ntmps18
        go_wp2_with fail
        refine HL.out.mono ?_
        rintro e W2 ⟨rfl, rfl⟩
        go_wp2_with fail
        refine HD.out.mono ?_
        rintro e W2 ⟨rfl, rfl⟩
        go_wp2
        go_loop [31] (fun i => ∃ n : Nat, n ≤ 13 ∧ i = .int .i64 n ∧ Hid (markN s marksL = markN s (marksL.drop n))) (fun i => 13 - (intOf i).toNat)
        case atStart => exact ⟨0, Nat.zero_le _, rfl, Lib.hid rfl⟩
        case round =>
          clear m0 m1 m2 m3 m4 m5 m6 m7 m8 m9 m10 m11 m12 lm
          obtain ⟨n, hn, rfl, hno⟩ := hrel
          obtain h13 | h13 : n = 13 ∨ n < 13 := by omega
          · subst h13
            go_wp2
            go_ret2
            exact ⟨by rw [HX.out, hno.out]; rfl, rfl⟩
          have hst : ∀ j (h : j < marksL.length), markN s (marksL.drop j) = if Lib.hasPrefix s marksL[j] then marksL[j].length else markN s (marksL.drop (j + 1)) := fun j h => by
            rw [List.drop_eq_getElem_cons h]; rfl
          obtain rfl | rfl | rfl | rfl | rfl | rfl | rfl | rfl | rfl | rfl | rfl | rfl | rfl : n = 0 ∨ n = 1 ∨ n = 2 ∨ n = 3 ∨ n = 4 ∨ n = 5 ∨ n = 6 ∨ n = 7 ∨ n = 8 ∨ n = 9 ∨ n = 10 ∨ n = 11 ∨ n = 12 := by omega
          · have HH := Lib.hid (HP.out [60, 62])
            have ix : ∀ w, (Instr.index 93 (.agg #[.string (bs [60, 62]), .string (bs [60, 61]), .string (bs [62, 61]), .string (bs [60]), .string (bs [62]), .string (bs [61]), .string (bs [43]), .string (bs [45]), .string (bs [42]), .string (bs [44]), .string (bs [59]), .string (bs [58]), .string (bs [46])]) (.int .i64 0)).run Tryd.prog w = .ok (.string (bs [60, 62])) w := fun _ => by kernel_rfl
            have hs1 := hst 0 (by decide)
            rw [← hno.out] at hs1
            have HS := Lib.hid hs1
            clear hst hs1 hno
            cases hp : Lib.hasPrefix s [60, 62] with
            | true =>
              rw [hp] at HH
              have HQ : Hid (R = (4, 2)) := Lib.hid (by rw [HX.out, HS.out]; exact congrArg (Prod.mk 4) (if_pos hp))
              clear hp
              go_wp2_with fail
              refine HH.out.mono ?_
              rintro e W2 ⟨rfl, rfl⟩
              go_wp2
              go_ret2
              exact ⟨by rw [HQ.out]; rfl, rfl⟩
            | false =>
              rw [hp] at HH
              have HQ : Hid (markN s marksL = markN s (marksL.drop 1)) := Lib.hid (HS.out.trans (if_neg (by rw [show marksL[0] = [60, 62] from rfl, hp]; decide)))
              clear hp
              go_wp2_with fail
              refine HH.out.mono ?_
              rintro e W2 ⟨rfl, rfl⟩
              go_wp2
              go_round
              case rel => exact ⟨1, by omega, by go_num, HQ⟩
              case measure => simp [intOf]
          · have HH := Lib.hid (HP.out [60, 61])
            have ix : ∀ w, (Instr.index 93 (.agg #[.string (bs [60, 62]), .string (bs [60, 61]), .string (bs [62, 61]), .string (bs [60]), .string (bs [62]), .string (bs [61]), .string (bs [43]), .string (bs [45]), .string (bs [42]), .string (bs [44]), .string (bs [59]), .string (bs [58]), .string (bs [46])]) (.int .i64 1)).run Tryd.prog w = .ok (.string (bs [60, 61])) w := fun _ => by kernel_rfl
            have hs1 := hst 1 (by decide)
            rw [← hno.out] at hs1
            have HS := Lib.hid hs1
            clear hst hs1 hno
            cases hp : Lib.hasPrefix s [60, 61] with
            | true =>
              rw [hp] at HH
              have HQ : Hid (R = (4, 2)) := Lib.hid (by rw [HX.out, HS.out]; exact congrArg (Prod.mk 4) (if_pos hp))
              clear hp
              go_wp2_with fail
              refine HH.out.mono ?_
              rintro e W2 ⟨rfl, rfl⟩
              go_wp2
              go_ret2
              exact ⟨by rw [HQ.out]; rfl, rfl⟩
            | false =>
              rw [hp] at HH
              have HQ : Hid (markN s marksL = markN s (marksL.drop 2)) := Lib.hid (HS.out.trans (if_neg (by rw [show marksL[1] = [60, 61] from rfl, hp]; decide)))
              clear hp
              go_wp2_with fail
              refine HH.out.mono ?_
              rintro e W2 ⟨rfl, rfl⟩
              go_wp2
              go_round
              case rel => exact ⟨2, by omega, by go_num, HQ⟩
              case measure => simp [intOf]
          · have HH := Lib.hid (HP.out [62, 61])
            have ix : ∀ w, (Instr.index 93 (.agg #[.string (bs [60, 62]), .string (bs [60, 61]), .string (bs [62, 61]), .string (bs [60]), .string (bs [62]), .string (bs [61]), .string (bs [43]), .string (bs [45]), .string (bs [42]), .string (bs [44]), .string (bs [59]), .string (bs [58]), .string (bs [46])]) (.int .i64 2)).run Tryd.prog w = .ok (.string (bs [62, 61])) w := fun _ => by kernel_rfl
            have hs1 := hst 2 (by decide)
            rw [← hno.out] at hs1
            have HS := Lib.hid hs1
            clear hst hs1 hno
            cases hp : Lib.hasPrefix s [62, 61] with
            | true =>
              rw [hp] at HH
              have HQ : Hid (R = (4, 2)) := Lib.hid (by rw [HX.out, HS.out]; exact congrArg (Prod.mk 4) (if_pos hp))
              clear hp
              go_wp2_with fail
              refine HH.out.mono ?_
              rintro e W2 ⟨rfl, rfl⟩
              go_wp2
              go_ret2
              exact ⟨by rw [HQ.out]; rfl, rfl⟩
            | false =>
              rw [hp] at HH
              have HQ : Hid (markN s marksL = markN s (marksL.drop 3)) := Lib.hid (HS.out.trans (if_neg (by rw [show marksL[2] = [62, 61] from rfl, hp]; decide)))
              clear hp
              go_wp2_with fail
              refine HH.out.mono ?_
              rintro e W2 ⟨rfl, rfl⟩
              go_wp2
              go_round
              case rel => exact ⟨3, by omega, by go_num, HQ⟩
              case measure => simp [intOf]
          · have HH := Lib.hid (HP.out [60])
            have ix : ∀ w, (Instr.index 93 (.agg #[.string (bs [60, 62]), .string (bs [60, 61]), .string (bs [62, 61]), .string (bs [60]), .string (bs [62]), .string (bs [61]), .string (bs [43]), .string (bs [45]), .string (bs [42]), .string (bs [44]), .string (bs [59]), .string (bs [58]), .string (bs [46])]) (.int .i64 3)).run Tryd.prog w = .ok (.string (bs [60])) w := fun _ => by kernel_rfl
            have hs1 := hst 3 (by decide)
            rw [← hno.out] at hs1
            have HS := Lib.hid hs1
            clear hst hs1 hno
            cases hp : Lib.hasPrefix s [60] with
            | true =>
              rw [hp] at HH
              have HQ : Hid (R = (4, 1)) := Lib.hid (by rw [HX.out, HS.out]; exact congrArg (Prod.mk 4) (if_pos hp))
              clear hp
              go_wp2_with fail
              refine HH.out.mono ?_
              rintro e W2 ⟨rfl, rfl⟩
              go_wp2
              go_ret2
              exact ⟨by rw [HQ.out]; rfl, rfl⟩
            | false =>
              rw [hp] at HH
              have HQ : Hid (markN s marksL = markN s (marksL.drop 4)) := Lib.hid (HS.out.trans (if_neg (by rw [show marksL[3] = [60] from rfl, hp]; decide)))
              clear hp
              go_wp2_with fail
              refine HH.out.mono ?_
              rintro e W2 ⟨rfl, rfl⟩
              go_wp2
              go_round
              case rel => exact ⟨4, by omega, by go_num, HQ⟩
              case measure => simp [intOf]
          · have HH := Lib.hid (HP.out [62])
            have ix : ∀ w, (Instr.index 93 (.agg #[.string (bs [60, 62]), .string (bs [60, 61]), .string (bs [62, 61]), .string (bs [60]), .string (bs [62]), .string (bs [61]), .string (bs [43]), .string (bs [45]), .string (bs [42]), .string (bs [44]), .string (bs [59]), .string (bs [58]), .string (bs [46])]) (.int .i64 4)).run Tryd.prog w = .ok (.string (bs [62])) w := fun _ => by kernel_rfl
            have hs1 := hst 4 (by decide)
            rw [← hno.out] at hs1
            have HS := Lib.hid hs1
            clear hst hs1 hno
            cases hp : Lib.hasPrefix s [62] with
            | true =>
              rw [hp] at HH
              have HQ : Hid (R = (4, 1)) := Lib.hid (by rw [HX.out, HS.out]; exact congrArg (Prod.mk 4) (if_pos hp))
              clear hp
              go_wp2_with fail
              refine HH.out.mono ?_
              rintro e W2 ⟨rfl, rfl⟩
              go_wp2
              go_ret2
              exact ⟨by rw [HQ.out]; rfl, rfl⟩
            | false =>
              rw [hp] at HH
              have HQ : Hid (markN s marksL = markN s (marksL.drop 5)) := Lib.hid (HS.out.trans (if_neg (by rw [show marksL[4] = [62] from rfl, hp]; decide)))
              clear hp
              go_wp2_with fail
              refine HH.out.mono ?_
              rintro e W2 ⟨rfl, rfl⟩
              go_wp2
              go_round
              case rel => exact ⟨5, by omega, by go_num, HQ⟩
              case measure => simp [intOf]
          · have HH := Lib.hid (HP.out [61])
            have ix : ∀ w, (Instr.index 93 (.agg #[.string (bs [60, 62]), .string (bs [60, 61]), .string (bs [62, 61]), .string (bs [60]), .string (bs [62]), .string (bs [61]), .string (bs [43]), .string (bs [45]), .string (bs [42]), .string (bs [44]), .string (bs [59]), .string (bs [58]), .string (bs [46])]) (.int .i64 5)).run Tryd.prog w = .ok (.string (bs [61])) w := fun _ => by kernel_rfl
            have hs1 := hst 5 (by decide)
            rw [← hno.out] at hs1
            have HS := Lib.hid hs1
            clear hst hs1 hno
            cases hp : Lib.hasPrefix s [61] with
            | true =>
              rw [hp] at HH
              have HQ : Hid (R = (4, 1)) := Lib.hid (by rw [HX.out, HS.out]; exact congrArg (Prod.mk 4) (if_pos hp))
              clear hp
              go_wp2_with fail
              refine HH.out.mono ?_
              rintro e W2 ⟨rfl, rfl⟩
              go_wp2
              go_ret2
              exact ⟨by rw [HQ.out]; rfl, rfl⟩
            | false =>
              rw [hp] at HH
              have HQ : Hid (markN s marksL = markN s (marksL.drop 6)) := Lib.hid (HS.out.trans (if_neg (by rw [show marksL[5] = [61] from rfl, hp]; decide)))
              clear hp
              go_wp2_with fail
              refine HH.out.mono ?_
              rintro e W2 ⟨rfl, rfl⟩
              go_wp2
              go_round
              case rel => exact ⟨6, by omega, by go_num, HQ⟩
              case measure => simp [intOf]
          · have HH := Lib.hid (HP.out [43])
            have ix : ∀ w, (Instr.index 93 (.agg #[.string (bs [60, 62]), .string (bs [60, 61]), .string (bs [62, 61]), .string (bs [60]), .string (bs [62]), .string (bs [61]), .string (bs [43]), .string (bs [45]), .string (bs [42]), .string (bs [44]), .string (bs [59]), .string (bs [58]), .string (bs [46])]) (.int .i64 6)).run Tryd.prog w = .ok (.string (bs [43])) w := fun _ => by kernel_rfl
            have hs1 := hst 6 (by decide)
            rw [← hno.out] at hs1
            have HS := Lib.hid hs1
            clear hst hs1 hno
            cases hp : Lib.hasPrefix s [43] with
            | true =>
              rw [hp] at HH
              have HQ : Hid (R = (4, 1)) := Lib.hid (by rw [HX.out, HS.out]; exact congrArg (Prod.mk 4) (if_pos hp))
              clear hp
              go_wp2_with fail
              refine HH.out.mono ?_
              rintro e W2 ⟨rfl, rfl⟩
              go_wp2
              go_ret2
              exact ⟨by rw [HQ.out]; rfl, rfl⟩
            | false =>
              rw [hp] at HH
              have HQ : Hid (markN s marksL = markN s (marksL.drop 7)) := Lib.hid (HS.out.trans (if_neg (by rw [show marksL[6] = [43] from rfl, hp]; decide)))
              clear hp
              go_wp2_with fail
              refine HH.out.mono ?_
              rintro e W2 ⟨rfl, rfl⟩
              go_wp2
              go_round
              case rel => exact ⟨7, by omega, by go_num, HQ⟩
              case measure => simp [intOf]
          · have HH := Lib.hid (HP.out [45])
            have ix : ∀ w, (Instr.index 93 (.agg #[.string (bs [60, 62]), .string (bs [60, 61]), .string (bs [62, 61]), .string (bs [60]), .string (bs [62]), .string (bs [61]), .string (bs [43]), .string (bs [45]), .string (bs [42]), .string (bs [44]), .string (bs [59]), .string (bs [58]), .string (bs [46])]) (.int .i64 7)).run Tryd.prog w = .ok (.string (bs [45])) w := fun _ => by kernel_rfl
            have hs1 := hst 7 (by decide)
            rw [← hno.out] at hs1
            have HS := Lib.hid hs1
            clear hst hs1 hno
            cases hp : Lib.hasPrefix s [45] with
            | true =>
              rw [hp] at HH
              have HQ : Hid (R = (4, 1)) := Lib.hid (by rw [HX.out, HS.out]; exact congrArg (Prod.mk 4) (if_pos hp))
              clear hp
              go_wp2_with fail
              refine HH.out.mono ?_
              rintro e W2 ⟨rfl, rfl⟩
              go_wp2
              go_ret2
              exact ⟨by rw [HQ.out]; rfl, rfl⟩
            | false =>
              rw [hp] at HH
              have HQ : Hid (markN s marksL = markN s (marksL.drop 8)) := Lib.hid (HS.out.trans (if_neg (by rw [show marksL[7] = [45] from rfl, hp]; decide)))
              clear hp
              go_wp2_with fail
              refine HH.out.mono ?_
              rintro e W2 ⟨rfl, rfl⟩
              go_wp2
              go_round
              case rel => exact ⟨8, by omega, by go_num, HQ⟩
              case measure => simp [intOf]
          · have HH := Lib.hid (HP.out [42])
            have ix : ∀ w, (Instr.index 93 (.agg #[.string (bs [60, 62]), .string (bs [60, 61]), .string (bs [62, 61]), .string (bs [60]), .string (bs [62]), .string (bs [61]), .string (bs [43]), .string (bs [45]), .string (bs [42]), .string (bs [44]), .string (bs [59]), .string (bs [58]), .string (bs [46])]) (.int .i64 8)).run Tryd.prog w = .ok (.string (bs [42])) w := fun _ => by kernel_rfl
            have hs1 := hst 8 (by decide)
            rw [← hno.out] at hs1
            have HS := Lib.hid hs1
            clear hst hs1 hno
            cases hp : Lib.hasPrefix s [42] with
            | true =>
              rw [hp] at HH
              have HQ : Hid (R = (4, 1)) := Lib.hid (by rw [HX.out, HS.out]; exact congrArg (Prod.mk 4) (if_pos hp))
              clear hp
              go_wp2_with fail
              refine HH.out.mono ?_
              rintro e W2 ⟨rfl, rfl⟩
              go_wp2
              go_ret2
              exact ⟨by rw [HQ.out]; rfl, rfl⟩
            | false =>
              rw [hp] at HH
              have HQ : Hid (markN s marksL = markN s (marksL.drop 9)) := Lib.hid (HS.out.trans (if_neg (by rw [show marksL[8] = [42] from rfl, hp]; decide)))
              clear hp
              go_wp2_with fail
              refine HH.out.mono ?_
              rintro e W2 ⟨rfl, rfl⟩
              go_wp2
              go_round
              case rel => exact ⟨9, by omega, by go_num, HQ⟩
              case measure => simp [intOf]
          · have HH := Lib.hid (HP.out [44])
            have ix : ∀ w, (Instr.index 93 (.agg #[.string (bs [60, 62]), .string (bs [60, 61]), .string (bs [62, 61]), .string (bs [60]), .string (bs [62]), .string (bs [61]), .string (bs [43]), .string (bs [45]), .string (bs [42]), .string (bs [44]), .string (bs [59]), .string (bs [58]), .string (bs [46])]) (.int .i64 9)).run Tryd.prog w = .ok (.string (bs [44])) w := fun _ => by kernel_rfl
            have hs1 := hst 9 (by decide)
            rw [← hno.out] at hs1
            have HS := Lib.hid hs1
            clear hst hs1 hno
            cases hp : Lib.hasPrefix s [44] with
            | true =>
              rw [hp] at HH
              have HQ : Hid (R = (4, 1)) := Lib.hid (by rw [HX.out, HS.out]; exact congrArg (Prod.mk 4) (if_pos hp))
              clear hp
              go_wp2_with fail
              refine HH.out.mono ?_
              rintro e W2 ⟨rfl, rfl⟩
              go_wp2
              go_ret2
              exact ⟨by rw [HQ.out]; rfl, rfl⟩
            | false =>
              rw [hp] at HH
              have HQ : Hid (markN s marksL = markN s (marksL.drop 10)) := Lib.hid (HS.out.trans (if_neg (by rw [show marksL[9] = [44] from rfl, hp]; decide)))
              clear hp
              go_wp2_with fail
              refine HH.out.mono ?_
              rintro e W2 ⟨rfl, rfl⟩
              go_wp2
              go_round
              case rel => exact ⟨10, by omega, by go_num, HQ⟩
              case measure => simp [intOf]
          · have HH := Lib.hid (HP.out [59])
            have ix : ∀ w, (Instr.index 93 (.agg #[.string (bs [60, 62]), .string (bs [60, 61]), .string (bs [62, 61]), .string (bs [60]), .string (bs [62]), .string (bs [61]), .string (bs [43]), .string (bs [45]), .string (bs [42]), .string (bs [44]), .string (bs [59]), .string (bs [58]), .string (bs [46])]) (.int .i64 10)).run Tryd.prog w = .ok (.string (bs [59])) w := fun _ => by kernel_rfl
            have hs1 := hst 10 (by decide)
            rw [← hno.out] at hs1
            have HS := Lib.hid hs1
            clear hst hs1 hno
            cases hp : Lib.hasPrefix s [59] with
            | true =>
              rw [hp] at HH
              have HQ : Hid (R = (4, 1)) := Lib.hid (by rw [HX.out, HS.out]; exact congrArg (Prod.mk 4) (if_pos hp))
              clear hp
              go_wp2_with fail
              refine HH.out.mono ?_
              rintro e W2 ⟨rfl, rfl⟩
              go_wp2
              go_ret2
              exact ⟨by rw [HQ.out]; rfl, rfl⟩
            | false =>
              rw [hp] at HH
              have HQ : Hid (markN s marksL = markN s (marksL.drop 11)) := Lib.hid (HS.out.trans (if_neg (by rw [show marksL[10] = [59] from rfl, hp]; decide)))
              clear hp
              go_wp2_with fail
              refine HH.out.mono ?_
              rintro e W2 ⟨rfl, rfl⟩
              go_wp2
              go_round
              case rel => exact ⟨11, by omega, by go_num, HQ⟩
              case measure => simp [intOf]
          · have HH := Lib.hid (HP.out [58])
            have ix : ∀ w, (Instr.index 93 (.agg #[.string (bs [60, 62]), .string (bs [60, 61]), .string (bs [62, 61]), .string (bs [60]), .string (bs [62]), .string (bs [61]), .string (bs [43]), .string (bs [45]), .string (bs [42]), .string (bs [44]), .string (bs [59]), .string (bs [58]), .string (bs [46])]) (.int .i64 11)).run Tryd.prog w = .ok (.string (bs [58])) w := fun _ => by kernel_rfl
            have hs1 := hst 11 (by decide)
            rw [← hno.out] at hs1
            have HS := Lib.hid hs1
            clear hst hs1 hno
            cases hp : Lib.hasPrefix s [58] with
            | true =>
              rw [hp] at HH
              have HQ : Hid (R = (4, 1)) := Lib.hid (by rw [HX.out, HS.out]; exact congrArg (Prod.mk 4) (if_pos hp))
              clear hp
              go_wp2_with fail
              refine HH.out.mono ?_
              rintro e W2 ⟨rfl, rfl⟩
              go_wp2
              go_ret2
              exact ⟨by rw [HQ.out]; rfl, rfl⟩
            | false =>
              rw [hp] at HH
              have HQ : Hid (markN s marksL = markN s (marksL.drop 12)) := Lib.hid (HS.out.trans (if_neg (by rw [show marksL[11] = [58] from rfl, hp]; decide)))
              clear hp
              go_wp2_with fail
              refine HH.out.mono ?_
              rintro e W2 ⟨rfl, rfl⟩
              go_wp2
              go_round
              case rel => exact ⟨12, by omega, by go_num, HQ⟩
              case measure => simp [intOf]
          · have HH := Lib.hid (HP.out [46])
            have ix : ∀ w, (Instr.index 93 (.agg #[.string (bs [60, 62]), .string (bs [60, 61]), .string (bs [62, 61]), .string (bs [60]), .string (bs [62]), .string (bs [61]), .string (bs [43]), .string (bs [45]), .string (bs [42]), .string (bs [44]), .string (bs [59]), .string (bs [58]), .string (bs [46])]) (.int .i64 12)).run Tryd.prog w = .ok (.string (bs [46])) w := fun _ => by kernel_rfl
            have hs1 := hst 12 (by decide)
            rw [← hno.out] at hs1
            have HS := Lib.hid hs1
            clear hst hs1 hno
            cases hp : Lib.hasPrefix s [46] with
            | true =>
              rw [hp] at HH
              have HQ : Hid (R = (4, 1)) := Lib.hid (by rw [HX.out, HS.out]; exact congrArg (Prod.mk 4) (if_pos hp))
              clear hp
              go_wp2_with fail
              refine HH.out.mono ?_
              rintro e W2 ⟨rfl, rfl⟩
              go_wp2
              go_ret2
              exact ⟨by rw [HQ.out]; rfl, rfl⟩
            | false =>
              rw [hp] at HH
              have HQ : Hid (markN s marksL = markN s (marksL.drop 13)) := Lib.hid (HS.out.trans (if_neg (by rw [show marksL[12] = [46] from rfl, hp]; decide)))
              clear hp
              go_wp2_with fail
              refine HH.out.mono ?_
              rintro e W2 ⟨rfl, rfl⟩
              go_wp2
              go_round
              case rel => exact ⟨13, by omega, by go_num, HQ⟩
              case measure => simp [intOf]
end Go.Proofs.YtdmboaoeholkpaaDoor
namespace Go.Proofs.YtdmboaoeholkpaaDoor
open Go.RowKit Go.BigFrame
attribute [local go_sem] bs_size bs_extract bs_append bs_toList
theorem tinf : (Tryd.prog.info? 49).map (fun i => (i.zero, i.size, i.bytes)) = some (some (.agg #[.int .i64 0, .string ⟨#[]⟩, .int .i64 0]), 3, 32) := by kernel_rfl
theorem slice_from {P : Program} {T : TypeId} (hT : P.underlying T = some .string) (s : Bs) (lo : Nat) (h1 : lo ≤ s.length) (W : World) :
    (Instr.slice T (.string (bs s)) (some (.int .i64 (lo : Int))) none none).run P W = .ok (.string (bs (s.drop lo))) W := by
  have h3 : (lo : Int) ≤ (s.length : Int) := by omega
  have e : (bs s).extract lo s.length = bs (s.drop lo) := by rw [bs_extract, List.take_of_length_le (Nat.le_refl _)]
  rw [← e]
  have h5 : lo ≤ (bs s).size := by rw [bs_size]; exact h1
  have h6 : (lo : Int) ≤ ((bs s).size : Int) := by rw [bs_size]; exact h3
  go_simp
/-- What tokens hands back. -/
def TokOut (R : Except (Int × Int) (List Tk)) (base : Nat) (e : Ending) (w' : World) : Prop := match R with
  | .ok l => ∃ A c, e = .returned (.tuple #[.slice A l.length c, .nilIface]) ∧ w'.ownsRow base 49 3 (.slice A l.length c) l.length (tsCells l)
  | .error x => ∃ gi, e = .returned (.tuple #[.slice none 0 0, .iface 80 (.pointer (some ⟨gi, 0, none⟩))]) ∧ Blk w' gi 82 #[.int .i64 x.1, .int .i64 x.2]
theorem tsCells_one (acc : List Tk) (k : Int) (u : Bs) (i : Int) : tsCells (acc ++ [⟨k, u, i⟩]) = tsCells acc ++ [.int .i64 k, .string (bs u), .int .i64 i] := by simp [tsCells, tCells]
set_option maxRecDepth 100000 in
set_option maxHeartbeats 8000000 in
theorem tokens_any (s : Bs) (hs : s.length ≤ 1000000) (w : World) (hE : FEnv w) :
    Calls Tryd.prog 10 #[.string (bs s)] w fun e w' => TokOut (lexL s) w.heap.size e w' ∧ Keeps [] w w' := by
  obtain ⟨i0, hi, hz0, hz1, hz2⟩ := info_parts tinf
  obtain ⟨R, hR⟩ : ∃ R, lexL s = R := ⟨_, rfl⟩
  rw [hR]
  unfold lexL at hR
  have HR := Lib.hid hR
  have HE := Lib.hid hE
  clear hR hE
  go_enter Tryd.func10, Tryd.ntmps10
  go_wp2
  go_loopw [4, 5] (fun v i wr => ∃ (n f : Nat) (acc : List Tk), n ≤ s.length ∧ i = .int .i64 n ∧ s.length - n ≤ f ∧ acc.length ≤ 400 ∧ Hid (lexGo f (s.drop n) n acc = R) ∧ wr.ownsRow w.heap.size 49 3 v acc.length (tsCells acc) ∧ Keeps [] w wr) (fun _ i _ => s.length - (intOf i).toNat)
  case atStart => exact ⟨0, s.length, [], Nat.zero_le _, rfl, Nat.le_refl _, by simp, HR, World.ownsRow_nil _ _ _ _, Keeps.refl _ _⟩
  case round =>
    clear HR
    obtain ⟨n, f, acc, hn, rfl, hf, hacc, HR, hown, hk⟩ := hrel
    obtain ⟨A, cv, rfl, -⟩ := own_form hown
    have HO := Lib.hid hown
    have HK := Lib.hid hk
    have hbd := Lib.hid (show acc.length + 1 ≤ maxLen ∧ (acc.length + 1) * 32 ≤ 140737488355328 by simp only [maxLen]; omega)
    have HWZ := Lib.hid (show w.heap.size ≤ wr.heap.size + 1 from Nat.le_succ_of_le hk.size)
    clear hown hk
    by_cases hlt : n < s.length
    · have hi0 : (n : Int) < (s.length : Int) := by omega
      obtain ⟨f, rfl⟩ : ∃ m, f = m + 1 := ⟨f - 1, by omega⟩
      have hbyte : ((bs s)[n]'(by rw [bs_size]; exact hlt)) = s[n] := bs_get s n _
      have hdr : s.drop n = s[n] :: s.drop (n + 1) := List.drop_eq_getElem_cons hlt
      have hsf := fun W => slice_from (P := Tryd.prog) Tryd.underlying9 s n hn W
      obtain ⟨c, hc⟩ : ∃ c, s[n] = c := ⟨_, rfl⟩
      obtain ⟨t, ht⟩ : ∃ t, s.drop (n + 1) = t := ⟨_, rfl⟩
      rw [hc] at hbyte hdr
      rw [ht] at hdr
      rw [hdr] at hsf
      have hlt2 : t.length + n + 1 = s.length := by rw [← ht, List.length_drop]; omega
      have h32 : c = 32 ↔ (c.toNat : Int) = 32 := ⟨fun h => by rw [h]; rfl, fun h => UInt8.toNat_inj.1 (by have : (32 : UInt8).toNat = 32 := rfl; omega)⟩
      have h10 : c = 10 ↔ (c.toNat : Int) = 10 := ⟨fun h => by rw [h]; rfl, fun h => UInt8.toNat_inj.1 (by have : (10 : UInt8).toNat = 10 := rfl; omega)⟩
      have HR1 : Hid ((if c = 32 ∨ c = 10 then lexGo f t (n + 1) acc
    else if (nextL (c :: t)).2 = 0 then .error (3, (n : Int))
    else if acc.length = 400 then .error (4, (n : Int))
    else lexGo f ((c :: t).drop (nextL (c :: t)).2) (n + (nextL (c :: t)).2) (acc ++ [⟨(nextL (c :: t)).1, (c :: t).take (nextL (c :: t)).2, n⟩])) = R) := Lib.hid (by rw [← HR.out, hdr]; rfl)
      have HT := Lib.hid ht
      have HD := Lib.hid hdr
      clear HR hc ht
      by_cases e32 : c = 32
      · have t1 : ((c.toNat : Int) == 32) = true := by rw [beq_iff_eq]; exact h32.1 e32
        have HQ : Hid (lexGo f (s.drop (n + 1)) (n + 1) acc = R) := Lib.hid (by rw [HT.out, ← HR1.out, if_pos (.inl e32)])
        clear h32 h10 e32 HR1 hdr hsf
        go_wp2
        go_roundw
        case rel => exact ⟨n + 1, f, acc, by omega, by go_num, by omega, hacc, HQ, HO.out, HK.out⟩
        case measure => simp [intOf]; omega
      have t1 : ((c.toNat : Int) == 32) = false := by rw [beq_eq_false_iff_ne]; exact fun h => e32 (h32.2 h)
      by_cases e10 : c = 10
      · have t2 : ((c.toNat : Int) == 10) = true := by rw [beq_iff_eq]; exact h10.1 e10
        have HQ : Hid (lexGo f (s.drop (n + 1)) (n + 1) acc = R) := Lib.hid (by rw [HT.out, ← HR1.out, if_pos (.inr e10)])
        clear h32 h10 e32 e10 HR1 hdr hsf
        go_wp2
        go_roundw
        case rel => exact ⟨n + 1, f, acc, by omega, by go_num, by omega, hacc, HQ, HO.out, HK.out⟩
        case measure => simp [intOf]; omega
      have t2 : ((c.toNat : Int) == 10) = false := by rw [beq_eq_false_iff_ne]; exact fun h => e10 (h10.2 h)
      have HR2 : Hid ((if (nextL (c :: t)).2 = 0 then .error (3, (n : Int))
    else if acc.length = 400 then .error (4, (n : Int))
    else lexGo f ((c :: t).drop (nextL (c :: t)).2) (n + (nextL (c :: t)).2) (acc ++ [⟨(nextL (c :: t)).1, (c :: t).take (nextL (c :: t)).2, n⟩])) = R) := Lib.hid (by rw [← HR1.out]; exact (if_neg (fun h => h.elim e32 e10)).symm)
      have HN := Lib.hid (next_any c t (by omega) wr (HE.out.quiet HK.out))
      have hle := nextL_le c t
      obtain ⟨km, hkm⟩ : ∃ km, nextL (c :: t) = km := ⟨_, rfl⟩
      obtain ⟨k, m⟩ := km
      rw [hkm] at HN HR2 hle
      simp only [List.length_cons] at hle
      clear h32 h10 e32 e10 HR1 hdr hkm
      by_cases hm : m = 0
      · subst hm
        have HX : Hid (R = .error (3, (n : Int))) := Lib.hid (by rw [← HR2.out]; exact if_pos rfl)
        go_wp2_with fail
        refine HN.out.mono ?_
        rintro e w2 ⟨rfl, rfl⟩
        go_wp2
        go_ret2
        exact ⟨by rw [HX.out]; exact ⟨_, rfl, Blk.new _ _ _⟩, HK.out.alloc _⟩
      · have m0 : ((m : Int) == 0) = false := by rw [beq_eq_false_iff_ne]; omega
        by_cases h4 : acc.length = 400
        · have HX : Hid (R = .error (4, (n : Int))) := Lib.hid (by rw [← HR2.out]; exact (if_neg hm).trans (if_pos h4))
          have a0 : ((acc.length : Int) == 400) = true := by rw [beq_iff_eq]; omega
          go_wp2_with fail
          refine HN.out.mono ?_
          rintro e w2 ⟨rfl, rfl⟩
          go_wp2
          go_ret2
          exact ⟨by rw [HX.out]; exact ⟨_, rfl, Blk.new _ _ _⟩, HK.out.alloc _⟩
        · have a0 : ((acc.length : Int) == 400) = false := by rw [beq_eq_false_iff_ne]; omega
          have hsl := fun W => slice_str (P := Tryd.prog) Tryd.underlying9 s n (n + m) (by omega) (by omega) W
          have etk : (s.take (n + m)).drop n = (c :: t).take m := by rw [List.drop_take, HD.out, show n + m - n = m by omega]
          rw [etk, show ((n + m : Nat) : Int) = (n : Int) + (m : Int) by omega] at hsl
          obtain ⟨u, hu⟩ : ∃ u, (c :: t).take m = u := ⟨_, rfl⟩
          rw [hu] at hsl
          have HQ : Hid (lexGo f (s.drop (n + m)) (n + m) (acc ++ [⟨k, u, (n : Int)⟩]) = R) := Lib.hid (by
            rw [← HR2.out, ← hu, show s.drop (n + m) = (c :: t).drop m by rw [← HD.out, List.drop_drop]]
            exact ((if_neg hm).trans (if_neg h4)).symm)
          clear etk hu
          go_wp2_with fail
          refine HN.out.mono ?_
          rintro e w2 ⟨rfl, rfl⟩
          go_wp2_with (at_builtin; refine wpList_append_lies _ rfl _ _ 41 rfl _ 49 i0 _ 3 32 Tryd.underlying41 hi hz0 hz1 hz2 rfl (by decide) _ acc.length (tsCells acc) rfl (HO.out.alloc _) ⟨wr.heap.size, 0, none⟩ 1 1 [.int .i64 k, .string (bs u), .int .i64 n] rfl rfl (World.news_of_block (heap_alloc_new _ _)) (by simp [Value.oneCell']) (by decide) hbd.out.1 hbd.out.2 (by simp; exact HWZ.out) _ rfl ?_; intro gw cap2 w8 hown8 hgrow8 hat8 hlt8)
          have HK8 := Lib.hid ((HK.out.alloc _).grown hgrow8 (fun g hg => .inr (HO.out.lt g hg).1))
          rw [← tsCells_one] at hown8
          have HO8 := Lib.hid hown8
          have ho1 : (acc ++ [⟨k, u, (n : Int)⟩] : List Tk).length = acc.length + 1 := by simp
          have HO1 := Lib.hid ho1
          clear hown8 hgrow8 hat8 hlt8 ho1 hsl hsf
          go_wp2
          go_roundw
          case rel => exact ⟨n + m, f, acc ++ [⟨k, u, (n : Int)⟩], by omega, by go_num, by omega, by rw [HO1.out]; omega, HQ, by rw [HO1.out]; exact HO8.out, HK8.out⟩
          case measure => simp [intOf]; omega
    · obtain rfl : n = s.length := by omega
      have HX : Hid (R = .ok (acc ++ [⟨5, [], (s.length : Int)⟩])) := Lib.hid (by
        rw [← HR.out, List.drop_of_length_le (Nat.le_refl _)]
        cases f <;> rfl)
      have ho1 : (acc ++ [⟨5, [], (s.length : Int)⟩] : List Tk).length = acc.length + 1 := by simp
      have HO1 := Lib.hid ho1
      clear ho1 HR
      go_wp2_with (at_builtin; refine wpList_append_lies _ rfl _ _ 41 rfl _ 49 i0 _ 3 32 Tryd.underlying41 hi hz0 hz1 hz2 rfl (by decide) _ acc.length (tsCells acc) rfl (HO.out.alloc _) ⟨wr.heap.size, 0, none⟩ 1 1 [.int .i64 5, .string (bs []), .int .i64 s.length] rfl rfl (World.news_of_block (heap_alloc_new _ _)) (by simp [Value.oneCell']) (by decide) hbd.out.1 hbd.out.2 (by simp; exact HWZ.out) _ rfl ?_; intro gw cap2 w8 hown8 hgrow8 hat8 hlt8)
      have HK8 := Lib.hid ((HK.out.alloc _).grown hgrow8 (fun g hg => .inr (HO.out.lt g hg).1))
      rw [← tsCells_one] at hown8
      have HO8 := Lib.hid hown8
      clear hown8 hgrow8 hat8 hlt8
      go_wp2
      go_ret2
      exact ⟨by rw [HX.out]; exact ⟨_, _, by rw [HO1.out]; rfl, by rw [HO1.out]; exact HO8.out⟩, HK8.out⟩
end Go.Proofs.YtdmboaoeholkpaaDoor
namespace Go.Proofs.YtdmboaoeholkpaaDoor
open Go.RowKit Go.BigFrame
attribute [local go_sem] bs_size bs_extract bs_append bs_toList
theorem wp_tmps {P : Program} {c : Code} {Q : Exit → Act → World → Prop} {t t' : Array Value} {d : List Deferred} {w : World} (h : t = t') (k : c.wp P Q ⟨t', d⟩ w) : c.wp P Q ⟨t, d⟩ w := h ▸ k
theorem wp_named {P : Program} {c : Code} {Q : Exit → Act → World → Prop} {a : Act} {w : World} (h : ∀ Q' : Exit → Act → World → Prop, (∀ e a w, Q e a w → Q' e a w) → c.wp P Q' a w) : c.wp P Q a w := h Q (fun _ _ _ h => h)
set_option maxRecDepth 100000 in
set_option maxHeartbeats 4000000 in
theorem catch_idle (p q : Addr) (w : World) :
    CallsD Tryd.prog 9 #[.pointer (some p), .pointer (some q)] .returning w fun e u' w' => e = .returned (.tuple #[]) ∧ u' = .returning ∧ w' = w := by
  refine callsD_of_wpS Tryd.func9 rfl fun c₀ cs hu => ?_
  apply wpS_seq
  apply wpS_region
  simp [wpOpsS, go_sem, recoverD, hu, Tryd.ntmps9, Exit.thenS]
  refine wpS_of_wp ?_
  go_wp2
  cases c₀
  simp_all [bodyPostS, results, Tryd.results9]
set_option maxRecDepth 100000 in
set_option maxHeartbeats 4000000 in
theorem catch_panicking (fb eb gi : Nat) (v0 v1 v2 : Value) (older : List PanicEntry) (w : World) (hf : Blk w fb 27 #[v0, v1, v2]) (he : Blk w eb 29 #[.nilIface]) (hne : fb ≠ eb) :
    CallsD Tryd.prog 9 #[.pointer (some ⟨fb, 0, none⟩), .pointer (some ⟨eb, 0, none⟩)] (.panicking ({ v := .iface 39 (.agg #[.iface 80 (.pointer (some ⟨gi, 0, none⟩))]), recovered := false } :: older)) w fun e u' w' =>
      e = .returned (.tuple #[]) ∧ u' = .panicking ({ v := .iface 39 (.agg #[.iface 80 (.pointer (some ⟨gi, 0, none⟩))]), recovered := true } :: older) ∧ Blk w' fb 27 #[.slice none 0 0, .slice none 0 0, .slice none 0 0] ∧ Blk w' eb 29 #[.iface 80 (.pointer (some ⟨gi, 0, none⟩))] ∧ Keeps [fb, eb] w w' := by
  refine callsD_of_wpS Tryd.func9 rfl fun c₀ cs hu => ?_
  apply wpS_seq
  apply wpS_region
  simp [wpOpsS, go_sem, recoverD, hu, Tryd.ntmps9, Exit.thenS]
  refine wpS_of_wp (wp_named fun QQ hQ => ?_)
  have HQ := Lib.hid hQ
  have hta : ∀ (v : Value) (w : World), (Instr.typeAssert (.iface 39 v) 20 39 true).run Tryd.prog w = .ok (.tuple #[v, .bool true]) w := fun v w => by first | kernel_rfl | rfl
  clear hQ hu
  refine wp_tmps (t' := #[.pointer (some ⟨fb, 0, none⟩), .pointer (some ⟨eb, 0, none⟩), .iface 39 (.agg #[.iface 80 (.pointer (some ⟨gi, 0, none⟩))]), undef, undef, .iface 39 (.agg #[.iface 80 (.pointer (some ⟨gi, 0, none⟩))]), undef, undef, undef, undef, undef, undef, undef, undef, undef, undef, undef, undef, undef]) (by first | rfl | simp [Array.replicate, List.replicate] | trace_state) ?_
  have f0 : w.cell? ⟨fb, 0, none⟩ = some v0 := hf.cell 0
  have f1 : w.cell? ⟨fb, 1, none⟩ = some v1 := hf.cell 1
  have f2 : w.cell? ⟨fb, 2, none⟩ = some v2 := hf.cell 2
  have z0 := hf.frozen 0
  have z1 := hf.frozen 1
  have z2 := hf.frozen 2
  have e0 : w.cell? ⟨eb, 0, none⟩ = some .nilIface := he.cell 0
  have ez := he.frozen 0
  have lf := hf.lt
  have le := he.lt
  have HF := Lib.hid hf
  have HE := Lib.hid he
  clear hf he
  go_wp2
  go_region
  refine HQ.out _ _ _ ⟨rfl, _, rfl, _, results_none rfl _ _ _, rfl, rfl, ?_, ?_, ?_⟩
  · exact ((((set3_2 (set3_1 (set3_0 HF.out))).keep ((Keeps.refl [eb] _).setCell (.inl (by simp)) _) (by simpa using hne)).keep ((Keeps.refl [] _).alloc _) (by simp)).keep ((Keeps.refl [] _).drew) (by simp))
  · have h1 : Keeps [fb] w (((w.setCell ⟨fb, 0, none⟩ (.slice none 0 0)).setCell ⟨fb, 1, none⟩ (.slice none 0 0)).setCell ⟨fb, 2, none⟩ (.slice none 0 0)) := (((Keeps.refl _ _).setCell (.inl (by simp)) _).setCell (.inl (by simp)) _).setCell (.inl (by simp)) _
    exact ((((HE.out.keep h1 (by simpa using hne.symm)).set 0 _).congr rfl).keep ((Keeps.refl [] _).alloc _) (by simp)).keep ((Keeps.refl [] _).drew) (by simp)
  · exact (((((((Keeps.refl _ _).setCell (.inl (by simp)) _).setCell (.inl (by simp)) _).setCell (.inl (by simp)) _).setCell (.inl (by simp)) _).alloc _).drew)
end Go.Proofs.YtdmboaoeholkpaaDoor
