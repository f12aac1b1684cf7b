/- table.cut: a line cut at blanks, but not within '. -/
import Derived.Test.YtodjaomghmcoiaaGreatDoorTabP
import Derived.Test.YtodjaomghmcoiaaGreatDoorStrs
namespace Go.Proofs.YtodjaomghmcoiaaGreatDoor
open Go.RowKit
attribute [local go_sem] bs_size bs_extract bs_append bs_toList
theorem cutS_from (s : Bs) : ∀ k, (cutS s k).2.1 ≤ k ∧ (cutS s k).1.length ≤ k
  | 0 => ⟨Nat.le_refl _, Nat.le_refl _⟩
  | k + 1 => by
    have ih := cutS_from s k
    unfold cutS
    simp only
    split
    · exact ⟨by simp only; omega, by simp only; omega⟩
    · split
      · exact ⟨Nat.le_refl _, by simp; omega⟩
      · omega
theorem cutS_len (s : Bs) : ∀ k, ∀ u ∈ (cutS s k).1, u.length ≤ s.length
  | 0, u, hu => by cases hu
  | k + 1, u, hu => by
    have ih := cutS_len s k
    unfold cutS at hu
    simp only at hu
    split at hu
    · exact ih u hu
    · split at hu
      · rcases List.mem_append.1 hu with hu | hu
        · exact ih u hu
        · rw [List.mem_singleton] at hu
          subst hu
          rw [List.length_drop, List.length_take]
          omega
      · exact ih u hu
theorem cutL_len (s : Bs) : ∀ u ∈ cutL s, u.length ≤ s.length := fun u hu => by
  unfold cutL at hu
  rcases List.mem_append.1 hu with hu | hu
  · exact cutS_len s _ u hu
  · rw [List.mem_singleton] at hu
    subst hu
    rw [List.length_drop]
    omega
set_option maxRecDepth 100000 in
set_option maxHeartbeats 4000000 in
theorem cut_any (s : Bs) (hs : s.length ≤ 1000000) (w : World) :
    Calls Tryz.prog 44 #[.string (bs s)] w fun e w' => ∃ A c, e = .returned (.slice A (cutL s).length c) ∧ w'.ownsRow w.heap.size 9 1 (.slice A (cutL s).length c) (cutL s).length (strs (cutL s)) ∧ Keeps [] w w' := by
  obtain ⟨i0, hi, hz0, hz1, hz2⟩ := info_parts sinfo
  go_enter Tryz.func44, Tryz.ntmps44
  go_wp2
  go_loopw [3, 4, 5, 9] (fun v f q i wr => ∃ n : Nat, n ≤ s.length ∧ i = .int .i64 n ∧ f = .int .i64 ((cutS s n).2.1 : Nat) ∧ q = .bool (cutS s n).2.2 ∧ wr.ownsRow w.heap.size 9 1 v (cutS s n).1.length (strs (cutS s n).1) ∧ Keeps [] w wr) (fun _ _ _ i _ => s.length - (intOf i).toNat)
  case atStart => exact ⟨0, Nat.zero_le _, rfl, rfl, rfl, World.ownsRow_nil _ _ _ _, Keeps.refl _ _⟩
  case round =>
    obtain ⟨n, hn, rfl, rfl, rfl, hown, hk⟩ := hrel
    have hfl := cutS_from s n
    by_cases hlt : n < s.length
    · have hg : s.getD n 0 = s[n] := by rw [List.getD_eq_getElem?_getD, List.getElem?_eq_getElem hlt]; rfl
      have hstep : cutS s (n + 1) = (if s[n] = 39 then ((cutS s n).1, (cutS s n).2.1, !(cutS s n).2.2) else if s[n] = 32 && !(cutS s n).2.2 then ((cutS s n).1 ++ [(s.take n).drop (cutS s n).2.1], n + 1, (cutS s n).2.2) else cutS s n) := by
        conv => lhs; unfold cutS
        simp only [hg]
      generalize hcs : cutS s n = r at *
      obtain ⟨o, f, q⟩ := r
      simp only at hfl hstep hown
      have hbyte : ((bs s)[n]'(by rw [bs_size]; exact hlt)) = s[n] := bs_get s n _
      generalize s[n] = b at *
      have h39 : b = 39 ↔ (b.toNat : Int) = 39 := ⟨fun h => by rw [h]; rfl, fun h => UInt8.toNat_inj.1 (by have : (39 : UInt8).toNat = 39 := rfl; omega)⟩
      have h32 : b = 32 ↔ (b.toNat : Int) = 32 := ⟨fun h => by rw [h]; rfl, fun h => UInt8.toNat_inj.1 (by have : (32 : UInt8).toNat = 32 := rfl; omega)⟩
      have HO := Lib.hid hown
      have HK := Lib.hid hk
      clear hown hk hg hcs
      by_cases e39 : b = 39
      · rw [if_pos e39] at hstep
        have t1 : ((b.toNat : Int) == 39) = true := by rw [beq_iff_eq]; exact h39.1 e39
        have HST := Lib.hid hstep
        clear hstep h39 h32 e39
        go_wp2
        go_roundw
        case rel => exact ⟨n + 1, by omega, by go_num, by rw [HST.out], by rw [HST.out], by rw [HST.out]; exact HO.out, HK.out⟩
        case measure => simp [intOf]; omega
      · rw [if_neg e39] at hstep
        have t1 : ((b.toNat : Int) == 39) = false := by rw [beq_eq_false_iff_ne]; exact fun h => e39 (h39.2 h)
        by_cases e32 : b = 32
        · have t2 : ((b.toNat : Int) == 32) = true := by rw [beq_iff_eq]; exact h32.1 e32
          cases q with
          | true =>
            rw [if_neg (by simp)] at hstep
            have HST := Lib.hid hstep
            clear hstep h39 h32 e39 e32
            go_wp2
            go_roundw
            case rel => exact ⟨n + 1, by omega, by go_num, by rw [HST.out], by rw [HST.out], by rw [HST.out]; exact HO.out, HK.out⟩
            case measure => simp [intOf]; omega
          | false =>
            rw [if_pos (by simp [e32])] at hstep
            have HST := Lib.hid hstep
            have hsl := fun W => slice_str (P := Tryz.prog) Tryz.underlying9 s f n hfl.1 hn W
            have hbd := Lib.hid (show o.length + 1 ≤ maxLen ∧ (o.length + 1) * 16 ≤ 140737488355328 by simp only [maxLen]; omega)
            have HWZ := Lib.hid (show w.heap.size ≤ wr.heap.size + 1 from Nat.le_succ_of_le HK.out.size)
            clear hstep h39 h32 e39 e32
            go_wp2_with (at_builtin; refine wpList_append_lies _ rfl _ _ 69 rfl _ 9 i0 _ 1 16 Tryz.underlying69 hi hz0 hz1 hz2 rfl (by decide) _ o.length (strs o) rfl (HO.out.alloc _) ⟨wr.heap.size, 0, none⟩ 1 1 [.string (bs ((s.take n).drop f))] rfl rfl (World.news_of_block (heap_alloc_new _ _)) (by simp [Value.oneCell']) (by decide) hbd.out.1 hbd.out.2 (by simp; exact HWZ.out) _ rfl ?_; intro gw cap2 w8 hown8 hgrow8 hat8 hlt8)
            have HK8 := Lib.hid ((HK.out.alloc _).grown hgrow8 (fun g hg => .inr (HO.out.lt g hg).1))
            rw [← strs_snoc] at hown8
            have HO8 := Lib.hid hown8
            have ho1 : (o ++ [(s.take n).drop f]).length = o.length + 1 := by simp
            have HO1 := Lib.hid ho1
            clear hown8 hgrow8 hat8 hlt8 ho1 hsl
            go_wp2
            go_roundw
            case rel => exact ⟨n + 1, by omega, by go_num, by rw [HST.out]; show Value.int IntKind.i64 ((n : Int) + 1) = .int .i64 ((n + 1 : Nat) : Int); go_num, by rw [HST.out], by rw [HST.out]; simp only; rw [HO1.out]; exact HO8.out, HK8.out⟩
            case measure => simp [intOf]; omega
        · rw [if_neg (by simp [e32])] at hstep
          have t2 : ((b.toNat : Int) == 32) = false := by rw [beq_eq_false_iff_ne]; exact fun h => e32 (h32.2 h)
          have HST := Lib.hid hstep
          clear hstep h39 h32 e39 e32
          go_wp2
          go_roundw
          case rel => exact ⟨n + 1, by omega, by go_num, by rw [HST.out], by rw [HST.out], by rw [HST.out]; exact HO.out, HK.out⟩
          case measure => simp [intOf]; omega
    · obtain rfl : n = s.length := by omega
      have hcl : cutL s = (cutS s s.length).1 ++ [s.drop (cutS s s.length).2.1] := rfl
      generalize hcs : cutS s s.length = r at *
      obtain ⟨o, f, q⟩ := r
      simp only at hfl hown hcl
      have HCL := Lib.hid hcl
      have hll : (cutL s).length = o.length + 1 := by rw [hcl]; simp
      have HLL := Lib.hid hll
      have HO := Lib.hid hown
      have HK := Lib.hid hk
      have hbd := Lib.hid (show o.length + 1 ≤ maxLen ∧ (o.length + 1) * 16 ≤ 140737488355328 by simp only [maxLen]; omega)
      have HWZ := Lib.hid (show w.heap.size ≤ wr.heap.size + 1 from Nat.le_succ_of_le HK.out.size)
      have hfs : (f : Int) ≤ (s.length : Int) := by omega
      have hdr : (s.take s.length).drop f = s.drop f := by rw [List.take_of_length_le (Nat.le_refl _)]
      have HDR := Lib.hid hdr
      clear hown hk hcl hcs hll hdr
      go_wp2_with (at_builtin; refine wpList_append_lies _ rfl _ _ 69 rfl _ 9 i0 _ 1 16 Tryz.underlying69 hi hz0 hz1 hz2 rfl (by decide) _ o.length (strs o) rfl (HO.out.alloc _) ⟨wr.heap.size, 0, none⟩ 1 1 [.string (bs (s.drop f))] rfl rfl (World.news_of_block (heap_alloc_new _ _)) (by simp [Value.oneCell']) (by decide) hbd.out.1 hbd.out.2 (by simp; exact HWZ.out) _ rfl ?_; intro gw cap2 w8 hown8 hgrow8 hat8 hlt8)
      have HK8 := Lib.hid ((HK.out.alloc _).grown hgrow8 (fun g hg => .inr (HO.out.lt g hg).1))
      rw [← strs_snoc, ← HCL.out] at hown8
      have HO8 := Lib.hid hown8
      clear hown8 hgrow8 hat8 hlt8
      go_ret
      exact ⟨some ⟨gw, 0, none⟩, cap2, by rw [HLL.out]; rfl, by rw [HLL.out]; exact HO8.out, HK8.out⟩
end Go.Proofs.YtodjaomghmcoiaaGreatDoor
