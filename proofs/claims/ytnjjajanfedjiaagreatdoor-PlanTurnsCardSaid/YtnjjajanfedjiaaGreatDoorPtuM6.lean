/- table.Value. table: RightValue, Less. strconv.Atoi, as far as it is asked. -/
import Derived.Test.YtnjjajanfedjiaaGreatDoorPtuM5
import Derived.Test.YtnjjajanfedjiaaGreatDoorShTab
import Derived.Sort.Grow
import Derived.Lib.ItoaLen
import Derived.Lib.OthersKept
import Derived.RowKit
import Derived.Lib.ConvBytes
import Derived.Lib.AtoiAll
set_option linter.unusedSimpArgs false
set_option linter.unusedVariables false
namespace Go.Proofs.YtnjjajanfedjiaaGreatDoor
open Go.RowKit Go.Sort
attribute [local go_sem] bs_size bs_extract bs_append bs_toList
theorem tabIs_quiet {P : Program} {w w' : World} {nm : String} {k : IntKind} {zs : List Int} (h : Lib.TabIs P w nm k zs) (hk : Keeps [] w w') : Lib.TabIs P w' nm k zs := by
 unfold Lib.TabIs World.var? at *
 cases hg : P.globalNamed nm with
 | none => rw [hg] at h; cases h
 | some g =>
  rw [hg] at h
  simp only [Option.bind_some] at h ⊢
  cases hh : w.heap[g]? with
  | none => rw [hh] at h; cases h
  | some o =>
   have hlt : g < w.heap.size := (Array.getElem?_eq_some_iff.1 hh).1
   rw [hk.block g hlt (by simp)]
   exact h
end Go.Proofs.YtnjjajanfedjiaaGreatDoor
namespace Go.Proofs.YtnjjajanfedjiaaGreatDoor
open Go.RowKit
attribute [local go_sem] bs_size bs_extract bs_append bs_toList
def badR (r : Nat) : Bool := decide (r < 32) || decide (126 < r) || decide (r = 39)
theorem decode_big (s : ByteArray) (pos : Nat) (h : 128 ≤ (s.get! (pos + 0)).toNat) : 128 ≤ (Utf8.decode s pos).1 := by
 unfold Utf8.decode
 simp only [Utf8.runeError, ge_iff_le]
 split
 ·omega
 ·repeat' split
  all_goals simp only [Bool.and_eq_true, decide_eq_true_eq] at *
  all_goals omega
theorem badRune_any (r : Nat) (hr : r < 2147483648) (w : World) :
    Calls Tryz.prog 187 #[.int .i32 (r : Int)] w fun e w' => e = .returned (.bool (badR r)) ∧ w = w' := by
  have h1 : decide ((r : Int) < 32) = decide (r < 32) := by rw [decide_eq_decide]; omega
  have h2 : decide ((126 : Int) < (r : Int)) = decide (126 < r) := by rw [decide_eq_decide]; omega
  have h3 : ((r : Int) == 39) = decide (r = 39) := by rw [Bool.eq_iff_iff]; simp; omega
  have hb : Hid (badR r = (decide (r < 32) || decide (126 < r) || decide (r = 39))) := rfl
  go_enter Tryz.func187, Tryz.ntmps187
  go_wp2
  all_goals go_ret
  all_goals refine ⟨?_, rfl⟩
  all_goals rw [hb.out]
  all_goals first
    | rfl
    | (show Ending.returned (.bool true) = .returned (.bool _)
       congr 2
       simp_all)
theorem getE (s : Bs) (pos : Nat) (h : pos < s.length) : (bs s).get! (pos + 0) = s[pos] := by
 rw [Nat.add_zero]
 show s.toArray[pos]! = _
 rw [getElem!_pos s.toArray pos (by simpa using h)]
 simp
theorem iterAt_other {w : World} {k j : Nat} (s : ByteArray) (p : Nat) (h : j ≠ k) : (w.iterAt k s p).heap[j]? = w.heap[j]? := by
 unfold World.iterAt
 simp [Ne.symm h]
set_option maxHeartbeats 2000000 in
theorem indexFunc_bad (s : Bs) (w : World) :
  Calls Tryz.prog 196 #[.string (bs s), .func (.func 187) #[] #[], .bool true] w fun e w' => (∃ n : Int, e = .returned (.int .i64 n) ∧ decide (0 ≤ n) = s.any badB) ∧ Keeps [] w w' := by
 go_enter Tryz.func196, Tryz.ntmps196
 go_wp2
 have hit0 : (w.iter (bs s) 0).heap[w.heap.size]? = some (.stringIter (bs s) 0) := World.iter_heap _ _ _
 have hk0 : Keeps [] w (w.iter (bs s) 0) := (Keeps.refl [] w).alloc _
 have HIT0 := Lib.hid hit0
 have HK0 := Lib.hid hk0
 clear hit0 hk0
 go_loopw [11] (fun _ wr => ∃ pos : Nat, pos ≤ s.length ∧ Hid (∀ j (hj : j < pos) (hl : j < s.length), badB s[j] = false) ∧ wr.heap[w.heap.size]? = some (.stringIter (bs s) pos) ∧ Keeps [] w wr) (fun _ wr => s.length - wr.iterPos w.heap.size)
 case atStart => exact ⟨0, Nat.zero_le _, fun j hj => absurd hj (by omega), HIT0.out, HK0.out⟩
 case round =>
  clear HIT0 HK0
  obtain ⟨pos, hpos, hno, hit, hkr⟩ := hrel
  have hlt : w.heap.size < wr.heap.size := (Array.getElem?_eq_some_iff.1 hit).1
  by_cases hp : pos < s.length
  ·have hp' : pos < (bs s).size := by rw [bs_size]; exact hp
   have hnx : ∀ ty, (Instr.next (.pointer (some ⟨w.heap.size, 0, none⟩)) true ty).run Tryz.prog wr = _ := fun ty => Lib.run_next_any_at wr w.heap.size (bs s) pos ty hit hp'
   have hit2 := Lib.iterAt_heap wr w.heap.size (bs s) pos (pos + (Utf8.decode (bs s) pos).2) hit
   have hk2 : Keeps [] w (wr.iterAt w.heap.size (bs s) (pos + (Utf8.decode (bs s) pos).2)) := hkr.trans' (L' := [w.heap.size]) ⟨rfl, rfl, by rw [Lib.iterAt_size]; exact Nat.le_refl _, fun k hk hn => iterAt_other _ _ (by simpa using hn)⟩ (fun x hx hl => by simp at hx; omega)
   have hge := getE s pos hp
   have hr31 : (Utf8.decode (bs s) pos).1 < 2147483648 := by have := decode_le (bs s) pos; omega
   have hip : wr.iterPos w.heap.size = pos := iterPos_of hit
   have HIP := Lib.hid hip
   by_cases hA : (s[pos]).toNat < 128
   ·have hd : Utf8.decode (bs s) pos = (s[pos].toNat, 1) := decode_ascii (bs s) pos hp' (by rw [bs_get]; exact hA)
    rw [hd] at hnx hit2 hk2
    have HIT2 := Lib.hid hit2
    have HK2 := Lib.hid hk2
    generalize hb : s[pos] = b at *
    have HB := Lib.hid hb
    clear hit2 hk2 hb hd hge hr31 hit hkr hip
    cases hbad : badB b with
    | true =>
     have hr : badR b.toNat = true := hbad
     have hbr := fun W => badRune_any b.toNat (by omega) W
     rw [hr] at hbr
     have HBR := Lib.hid hbr
     have hany : s.any badB = true := List.any_eq_true.2 ⟨s[pos], List.getElem_mem hp, by rw [HB.out]; exact hbad⟩
     have HANY := Lib.hid hany
     clear hr hbr hbad hany
     go_wp2_with (go_at_call 187; refine (HBR.out _).mono ?_; rintro e w5 ⟨rfl, rfl⟩)
     go_ret
     exact ⟨⟨(pos : Int), rfl, by rw [HANY.out]; simp⟩, HK2.out⟩
    | false =>
     have hr : badR b.toNat = false := hbad
     have hbr := fun W => badRune_any b.toNat (by omega) W
     rw [hr] at hbr
     have HBR := Lib.hid hbr
     have hno' : Hid (∀ j (hj : j < pos + 1) (hl : j < s.length), badB s[j] = false) := fun j hj hl => by
      by_cases h : j < pos
      ·exact hno.out j h hl
      ·obtain rfl : j = pos := by omega
       exact (congrArg badB HB.out).trans hbad
     clear hr hbr hbad hno
     go_wp2_with (go_at_call 187; refine (HBR.out _).mono ?_; rintro e w5 ⟨rfl, rfl⟩)
     go_roundw
     case rel => exact ⟨pos + 1, by omega, hno', HIT2.out, HK2.out⟩
     case measure => rw [iterPos_of HIT2.out, HIP.out]; omega
   ·have hbig := decode_big (bs s) pos (by rw [hge]; omega)
    have hbad : badB s[pos] = true := by unfold badB; simp; omega
    have hany : s.any badB = true := List.any_eq_true.2 ⟨s[pos], List.getElem_mem hp, hbad⟩
    generalize Utf8.decode (bs s) pos = dd at *
    have hr : badR dd.1 = true := by unfold badR; simp; omega
    have hbr := fun W => badRune_any dd.1 hr31 W
    rw [hr] at hbr
    have HBR := Lib.hid hbr
    have HANY := Lib.hid hany
    have HK2 := Lib.hid hk2
    clear hr hbr hbad hany hk2 hit2 hge hip hit hkr
    go_wp2_with (go_at_call 187; refine (HBR.out _).mono ?_; rintro e w5 ⟨rfl, rfl⟩)
    go_ret
    exact ⟨⟨(pos : Int), rfl, by rw [HANY.out]; simp⟩, HK2.out⟩
  ·have hnx : ∀ ty, (Instr.next (.pointer (some ⟨w.heap.size, 0, none⟩)) true ty).run Tryz.prog wr = _ := fun ty => Lib.run_next_end_at wr w.heap.size (bs s) pos ty hit (by rw [bs_size]; exact hp)
   have hany : s.any badB = false := by
    rw [List.any_eq_false]
    intro x hx
    obtain ⟨j, hj, rfl⟩ := List.getElem_of_mem hx
    rw [hno.out j (by omega) hj]; decide
   have HANY := Lib.hid hany
   have HKR := Lib.hid hkr
   clear hany hkr hit
   go_wp2
   go_ret
   exact ⟨⟨-1, rfl, by rw [HANY.out]; rfl⟩, HKR.out⟩
theorem containsBad_any (s : Bs) (w : World) :
  Calls Tryz.prog 186 #[.string (bs s), .func (.func 187) #[] #[]] w fun e w' => e = .returned (.bool (s.any badB)) ∧ Keeps [] w w' := by
 have HI := Lib.hid (indexFunc_bad s)
 have h1 : Calls Tryz.prog 195 #[.string (bs s), .func (.func 187) #[] #[]] w fun e w' => (∃ n : Int, e = .returned (.int .i64 n) ∧ decide (0 ≤ n) = s.any badB) ∧ Keeps [] w w' := by
  go_enter Tryz.func195, Tryz.ntmps195
  go_wp2_with (go_at_call 196; refine (HI.out _).mono ?_; rintro e w5 ⟨⟨n, rfl, hn⟩, hk⟩)
  have HN := Lib.hid hn
  clear hn
  go_ret
  exact ⟨⟨n, rfl, HN.out⟩, hk⟩
 have H1 := Lib.hid h1
 clear h1
 go_enter Tryz.func186, Tryz.ntmps186
 go_wp2_with fail
 refine H1.out.mono ?_
 rintro e w5 ⟨⟨n, rfl, hn⟩, hk⟩
 have HN := Lib.hid hn
 clear hn
 go_wp2
 go_ret
 exact ⟨by rw [← HN.out]; rfl, hk⟩
theorem rightValue_any (v : Vl) (w : World) :
  Calls Tryz.prog 169 #[vAgg v] w fun e w' => e = .returned (.bool (rvB v)) ∧ Keeps [] w w' := by
 obtain ⟨k, n, s⟩ := v
 show Calls _ _ #[.agg #[.int .i64 k, .int .i64 n, .string (bs s)]] w _
 have HC := Lib.hid (containsBad_any s)
 obtain ⟨R, hR⟩ : ∃ R, rvB ⟨k, n, s⟩ = R := ⟨_, rfl⟩
 rw [hR]
 by_cases h1 : k = 1
 ·have hb1 : (k == 1) = true := by rw [h1]; rfl
  have HR : Hid (R = ((s == []) && decide (-1000000000 ≤ n) && decide (n ≤ 1000000000))) := Lib.hid (hR.symm.trans (if_pos h1))
  clear h1 hR
  go_enter Tryz.func169, Tryz.ntmps169
  go_wp2
  all_goals go_ret
  all_goals refine ⟨?_, (Keeps.refl _ _).alloc _⟩
  all_goals rw [HR.out]
  all_goals refine congrArg (fun b => Ending.returned (.bool b)) (?_ : _ = _)
  all_goals first | rfl | (simp_all; done) | (simp_all; omega) | (simp_all; intros; omega) | (simp_all; intros; exfalso; omega)
 ·have hb1 : (k == 1) = false := by rw [beq_eq_false_iff_ne]; exact h1
  by_cases h2 : k = 2
  ·have hb2 : (k == 2) = true := by rw [h2]; rfl
   have HR : Hid (R = (decide (n = 0) && decide (s.length ≤ 16) && !s.any badB)) := Lib.hid (hR.symm.trans ((if_neg h1).trans (if_pos h2)))
   clear h1 h2 hR
   go_enter Tryz.func169, Tryz.ntmps169
   go_wp2_with (go_at_call 186; refine (HC.out _).mono ?_; rintro e w5 ⟨rfl, hk⟩)
   all_goals go_ret
   all_goals refine ⟨?_, by first | exact (((Keeps.refl _ _).alloc _).trans hk) | exact ((Keeps.refl _ _).alloc _)⟩
   all_goals rw [HR.out]
   all_goals refine congrArg (fun b => Ending.returned (.bool b)) (?_ : _ = _)
   all_goals first | rfl | (simp_all; done) | (simp_all; omega) | (simp_all; intros; omega) | (simp_all; intros; exfalso; omega)
  ·have hb2 : (k == 2) = false := by rw [beq_eq_false_iff_ne]; exact h2
   have HR : Hid (R = false) := Lib.hid (hR.symm.trans ((if_neg h1).trans (if_neg h2)))
   clear h1 h2 hR
   go_enter Tryz.func169, Tryz.ntmps169
   go_wp2
   go_ret
   exact ⟨by rw [HR.out]; rfl, (Keeps.refl _ _).alloc _⟩
end Go.Proofs.YtnjjajanfedjiaaGreatDoor
namespace Go.Proofs.YtnjjajanfedjiaaGreatDoor
open Go.RowKit
attribute [local go_sem] bs_size bs_extract bs_append bs_toList
theorem atoi_ok {l : Bs} {v : Int} (h : Lib.atoiAll l = .ok v) : numOk v := by
 unfold Lib.atoiAll at h
 split at h
 ·cases h
 ·simp only at h
  split at h
  ·cases h
  ·cases h
  ·rename_i u _
   split at h
   ·cases h
   ·split at h
    ·cases h
    ·injection h with h
     subst h
     unfold numOk
     split <;> omega
theorem atoi_env (s : Bs) (hs : s.length ≤ 1000000000) (w : World) (he1 : ∃ t p, w.cell? ⟨6, 0, none⟩ = some (.iface t p)) (he2 : ∃ t p, w.cell? ⟨7, 0, none⟩ = some (.iface t p)) :
  (∃ v, Lib.atoiAll s = .ok v ∧ numOk v ∧ Calls Tryz.prog 70 #[.string (bs s)] w fun e w' => e = .returned (.tuple #[.int .i64 v, .nilIface]) ∧ Keeps [] w w') ∨
  ((∀ v, Lib.atoiAll s ≠ .ok v) ∧ Calls Tryz.prog 70 #[.string (bs s)] w fun e w' => (∃ n t p, e = .returned (.tuple #[.int .i64 n, .iface t p])) ∧ Keeps [] w w') := by
 rcases h : Lib.atoiAll s with v | _ | _
 ·
  left
  refine ⟨v, rfl, atoi_ok h, (Tryz.strconv_Atoi_ok (bs s) (by rw [bs_size]; omega) v h w).mono ?_⟩
  rintro e w' ⟨rfl, hw⟩
  refine ⟨rfl, ?_⟩
  rcases hw with rfl | ⟨t, rfl⟩
  ·exact Keeps.refl _ _
  ·exact Keeps.of_below (Lib.bytesWorld_below _ _ _)
 ·
  right
  refine ⟨fun v hv => (by cases hv), ?_⟩
  obtain ⟨t, p, hc⟩ := he1
  refine (Tryz.strconv_Atoi_syntax (bs s) (by rw [bs_size]; omega) h (.iface t p) w hc (.inr ⟨_, _, rfl⟩)).mono ?_
  rintro e w' ⟨N, rfl, _, _, hb⟩
  exact ⟨⟨_, _, _, rfl⟩, Keeps.of_below hb⟩
 ·
  right
  refine ⟨fun v hv => (by cases hv), ?_⟩
  obtain ⟨t, p, hc⟩ := he2
  refine (Tryz.strconv_Atoi_range (bs s) (by rw [bs_size]; omega) h (.iface t p) w hc (.inr ⟨_, _, rfl⟩)).mono ?_
  rintro e w' ⟨N, rfl, _, _, hb⟩
  exact ⟨⟨_, _, _, rfl⟩, Keeps.of_below hb⟩
end Go.Proofs.YtnjjajanfedjiaaGreatDoor
