/- table.cut: a line cut at blanks, but not within '. Rows of the call's own: a literal, and one cell that is written. strings.Split and strings.Cut at one byte, as plain functions. -/
import Derived.Test.YtpagiajlefejcaaGreatDoorTbrM8
import Derived.Test.YtpagiajlefejcaaGreatDoorTbrM9
import Derived.Test.YtpagiajlefejcaaGreatDoorTbrM4
import Derived.Lib.Split
import Derived.Lib.CountLaws
set_option linter.unusedSimpArgs false
set_option linter.unusedVariables false
namespace Go.Proofs.YtpagiajlefejcaaGreatDoor
open Go.RowKit
attribute [local go_sem] bs_size bs_extract bs_append bs_toList
theorem cutS_from (s : Bs) : ∀ k, (cutS s k).2.1 ≤ k ∧ (cutS s k).1.length ≤ k
 | 0 => ⟨Nat.le_refl _, Nat.le_refl _⟩
 | k + 1 => by
  have ih := cutS_from s k
  unfold cutS
  simp only
  split
  ·exact ⟨by simp only; omega, by simp only; omega⟩
  ·split
   ·exact ⟨Nat.le_refl _, by simp; omega⟩
   ·omega
theorem cutS_len (s : Bs) : ∀ k, ∀ u ∈ (cutS s k).1, u.length ≤ s.length
 | 0, u, hu => by cases hu
 | k + 1, u, hu => by
  have ih := cutS_len s k
  unfold cutS at hu
  simp only at hu
  split at hu
  ·exact ih u hu
  ·split at hu
   ·rcases List.mem_append.1 hu with hu | hu
    ·exact ih u hu
    ·rw [List.mem_singleton] at hu
     subst hu
     rw [List.length_drop, List.length_take]
     omega
   ·exact ih u hu
theorem cutL_len (s : Bs) : ∀ u ∈ cutL s, u.length ≤ s.length := fun u hu => by
 unfold cutL at hu
 rcases List.mem_append.1 hu with hu | hu
 ·exact cutS_len s _ u hu
 ·rw [List.mem_singleton] at hu
  subst hu
  rw [List.length_drop]
  omega
set_option maxRecDepth 100000 in
set_option maxHeartbeats 4000000 in
theorem cut_any (s : Bs) (hs : s.length ≤ 1000000) (w : World) :
  Calls Tryz.prog 71 #[.string (bs s)] w fun e w' => ∃ A c, e = .returned (.slice A (cutL s).length c) ∧ w'.ownsRow w.heap.size 9 1 (.slice A (cutL s).length c) (cutL s).length (strs (cutL s)) ∧ Keeps [] w w' := by
 obtain ⟨i0, hi, hz0, hz1, hz2⟩ := info_parts sinfo
 go_enter Tryz.func71, Tryz.ntmps71
 go_wp2
 go_loopw [3, 4, 5, 9] (fun v f q i wr => ∃ n : Nat, n ≤ s.length ∧ i = .int .i64 n ∧ f = .int .i64 ((cutS s n).2.1 : Nat) ∧ q = .bool (cutS s n).2.2 ∧ wr.ownsRow w.heap.size 9 1 v (cutS s n).1.length (strs (cutS s n).1) ∧ Keeps [] w wr) (fun _ _ _ i _ => s.length - (intOf i).toNat)
 case atStart => exact ⟨0, Nat.zero_le _, rfl, rfl, rfl, World.ownsRow_nil _ _ _ _, Keeps.refl _ _⟩
 case round =>
  obtain ⟨n, hn, rfl, rfl, rfl, hown, hk⟩ := hrel
  have hfl := cutS_from s n
  by_cases hlt : n < s.length
  ·have hg : s.getD n 0 = s[n] := by rw [List.getD_eq_getElem?_getD, List.getElem?_eq_getElem hlt]; rfl
   have hstep : cutS s (n + 1) = (if s[n] = 39 then ((cutS s n).1, (cutS s n).2.1, !(cutS s n).2.2) else if s[n] = 32 && !(cutS s n).2.2 then ((cutS s n).1 ++ [(s.take n).drop (cutS s n).2.1], n + 1, (cutS s n).2.2) else cutS s n) := by
    conv => lhs; unfold cutS
    simp only [hg]
   generalize hcs : cutS s n = r at *
   obtain ⟨o, f, q⟩ := r
   simp only at hfl hstep hown
   have hbyte : ((bs s)[n]'(by rw [bs_size]; exact hlt)) = s[n] := bs_get s n _
   generalize s[n] = b at *
   have h39 : b = 39 ↔ (b.toNat : Int) = 39 := ⟨fun h => by rw [h]; rfl, fun h => UInt8.toNat_inj.1 (by have : (39 : UInt8).toNat = 39 := rfl; omega)⟩
   have h32 : b = 32 ↔ (b.toNat : Int) = 32 := ⟨fun h => by rw [h]; rfl, fun h => UInt8.toNat_inj.1 (by have : (32 : UInt8).toNat = 32 := rfl; omega)⟩
   have HO := Lib.hid hown
   have HK := Lib.hid hk
   clear hown hk hg hcs
   by_cases e39 : b = 39
   ·rw [if_pos e39] at hstep
    have t1 : ((b.toNat : Int) == 39) = true := by rw [beq_iff_eq]; exact h39.1 e39
    have HST := Lib.hid hstep
    clear hstep h39 h32 e39
    go_wp2
    go_roundw
    case rel => exact ⟨n + 1, by omega, by go_num, by rw [HST.out], by rw [HST.out], by rw [HST.out]; exact HO.out, HK.out⟩
    case measure => simp [intOf]; omega
   ·rw [if_neg e39] at hstep
    have t1 : ((b.toNat : Int) == 39) = false := by rw [beq_eq_false_iff_ne]; exact fun h => e39 (h39.2 h)
    by_cases e32 : b = 32
    ·have t2 : ((b.toNat : Int) == 32) = true := by rw [beq_iff_eq]; exact h32.1 e32
     cases q with
     | true =>
      rw [if_neg (by simp)] at hstep
      have HST := Lib.hid hstep
      clear hstep h39 h32 e39 e32
      go_wp2
      go_roundw
      case rel => exact ⟨n + 1, by omega, by go_num, by rw [HST.out], by rw [HST.out], by rw [HST.out]; exact HO.out, HK.out⟩
      case measure => simp [intOf]; omega
     | false =>
      rw [if_pos (by simp [e32])] at hstep
      have HST := Lib.hid hstep
      have hsl := fun W => slice_str (P := Tryz.prog) Tryz.underlying9 s f n hfl.1 hn W
      have hbd := Lib.hid (show o.length + 1 ≤ maxLen ∧ (o.length + 1) * 16 ≤ 140737488355328 by simp only [maxLen]; omega)
      have HWZ := Lib.hid (show w.heap.size ≤ wr.heap.size + 1 from Nat.le_succ_of_le HK.out.size)
      clear hstep h39 h32 e39 e32
      go_wp2_with (at_builtin; refine wpList_append_lies _ rfl _ _ 55 rfl _ 9 i0 _ 1 16 Tryz.underlying55 hi hz0 hz1 hz2 rfl (by decide) _ o.length (strs o) rfl (HO.out.alloc _) ⟨wr.heap.size, 0, none⟩ 1 1 [.string (bs ((s.take n).drop f))] rfl rfl (World.news_of_block (heap_alloc_new _ _)) (by simp [Value.oneCell']) (by decide) hbd.out.1 hbd.out.2 (by simp; exact HWZ.out) _ rfl ?_; intro gw cap2 w8 hown8 hgrow8 hat8 hlt8)
      have HK8 := Lib.hid ((HK.out.alloc _).grown hgrow8 (fun g hg => .inr (HO.out.lt g hg).1))
      rw [← strs_snoc] at hown8
      have HO8 := Lib.hid hown8
      have ho1 : (o ++ [(s.take n).drop f]).length = o.length + 1 := by simp
      have HO1 := Lib.hid ho1
      clear hown8 hgrow8 hat8 hlt8 ho1 hsl
      go_wp2
      go_roundw
      case rel => exact ⟨n + 1, by omega, by go_num, by rw [HST.out]; show Value.int IntKind.i64 ((n : Int) + 1) = .int .i64 ((n + 1 : Nat) : Int); go_num, by rw [HST.out], by rw [HST.out]; simp only; rw [HO1.out]; exact HO8.out, HK8.out⟩
      case measure => simp [intOf]; omega
    ·rw [if_neg (by simp [e32])] at hstep
     have t2 : ((b.toNat : Int) == 32) = false := by rw [beq_eq_false_iff_ne]; exact fun h => e32 (h32.2 h)
     have HST := Lib.hid hstep
     clear hstep h39 h32 e39 e32
     go_wp2
     go_roundw
     case rel => exact ⟨n + 1, by omega, by go_num, by rw [HST.out], by rw [HST.out], by rw [HST.out]; exact HO.out, HK.out⟩
     case measure => simp [intOf]; omega
  ·obtain rfl : n = s.length := by omega
   have hcl : cutL s = (cutS s s.length).1 ++ [s.drop (cutS s s.length).2.1] := rfl
   generalize hcs : cutS s s.length = r at *
   obtain ⟨o, f, q⟩ := r
   simp only at hfl hown hcl
   have HCL := Lib.hid hcl
   have hll : (cutL s).length = o.length + 1 := by rw [hcl]; simp
   have HLL := Lib.hid hll
   have HO := Lib.hid hown
   have HK := Lib.hid hk
   have hbd := Lib.hid (show o.length + 1 ≤ maxLen ∧ (o.length + 1) * 16 ≤ 140737488355328 by simp only [maxLen]; omega)
   have HWZ := Lib.hid (show w.heap.size ≤ wr.heap.size + 1 from Nat.le_succ_of_le HK.out.size)
   have hfs : (f : Int) ≤ (s.length : Int) := by omega
   have hdr : (s.take s.length).drop f = s.drop f := by rw [List.take_of_length_le (Nat.le_refl _)]
   have HDR := Lib.hid hdr
   clear hown hk hcl hcs hll hdr
   go_wp2_with (at_builtin; refine wpList_append_lies _ rfl _ _ 55 rfl _ 9 i0 _ 1 16 Tryz.underlying55 hi hz0 hz1 hz2 rfl (by decide) _ o.length (strs o) rfl (HO.out.alloc _) ⟨wr.heap.size, 0, none⟩ 1 1 [.string (bs (s.drop f))] rfl rfl (World.news_of_block (heap_alloc_new _ _)) (by simp [Value.oneCell']) (by decide) hbd.out.1 hbd.out.2 (by simp; exact HWZ.out) _ rfl ?_; intro gw cap2 w8 hown8 hgrow8 hat8 hlt8)
   have HK8 := Lib.hid ((HK.out.alloc _).grown hgrow8 (fun g hg => .inr (HO.out.lt g hg).1))
   rw [← strs_snoc, ← HCL.out] at hown8
   have HO8 := Lib.hid hown8
   clear hown8 hgrow8 hat8 hlt8
   go_ret
   exact ⟨some ⟨gw, 0, none⟩, cap2, by rw [HLL.out]; rfl, by rw [HLL.out]; exact HO8.out, HK8.out⟩
end Go.Proofs.YtpagiajlefejcaaGreatDoor
namespace Go.Proofs.YtpagiajlefejcaaGreatDoor
open Go.RowKit
attribute [local go_sem] bs_size bs_extract bs_append bs_toList
theorem own_lit {W : World} {g base n size : Nat} {e : TypeId} {cs : Array Value} (h : Blk W g e cs) (hb : base ≤ g) (hn : cs.size = n * size) (hm : n ≤ maxLen) : W.ownsRow base e size (.slice (some ⟨g, 0, none⟩) n n) n cs.toList :=
 ⟨by simpa using hn, .inr ⟨g, n, cs, rfl, hb, h, Nat.le_refl _, hm, hn, by rw [← hn]; exact List.take_of_length_le (by simp)⟩⟩
theorem own_store {w : World} {base g n cap j : Nat} {e : TypeId} {size : Nat} {xs : List Value} {u : Value} (h : w.ownsRow base e size (.slice (some ⟨g, 0, none⟩) n cap) n xs) : (w.setCell ⟨g, j, none⟩ u).ownsRow base e size (.slice (some ⟨g, 0, none⟩) n cap) n (xs.set j u) := by
 refine ⟨by rw [List.length_set]; exact h.1, ?_⟩
 rcases h.2 with ⟨hv, _⟩ | ⟨g', cap', cur, hv, hb, hh, hc, hm, hs, ht⟩
 ·cases hv
 ·injection hv with e1 e2 e3
  injection e1 with e1
  injection e1 with e1
  subst e1 e3
  have hblk : Blk w g e cur := hh
  refine .inr ⟨g, cap, cur.setIfInBounds j u, rfl, hb, hblk.set j u, hc, hm, by simpa using hs, ?_⟩
  rw [← ht]
  simp only [Array.toList_setIfInBounds]
  rw [List.take_set]
theorem own_cellF {w : World} {base g n cap : Nat} {e : TypeId} {size : Nat} {xs : List Value} (h : w.ownsRow base e size (.slice (some ⟨g, 0, none⟩) n cap) n xs) (i : Nat) : w.frozen? ⟨g, i, none⟩ = false := by
 rcases h.2 with ⟨hv, _⟩ | ⟨g', cap', cur, hv, hb, hh, hc, hm, hs, ht⟩
 ·cases hv
 ·injection hv with e1 e2 e3
  injection e1 with e1
  injection e1 with e1
  subst e1
  have hblk : Blk w g e cur := hh
  exact hblk.frozen i
end Go.Proofs.YtpagiajlefejcaaGreatDoor
namespace Go.Proofs.YtpagiajlefejcaaGreatDoor
open Go.RowKit
theorem index1_hit (c : UInt8) (l : Bs) : Lib.index (c :: l) [c] = 0 := by unfold Lib.index; simp
theorem index1_pass {b c : UInt8} (h : b ≠ c) (l : Bs) : Lib.index (b :: l) [c] = if Lib.index l [c] = -1 then -1 else Lib.index l [c] + 1 := by
 have hp : ([c] : Bs).isPrefixOf (b :: l) = false := by
  simp only [List.isPrefixOf, Bool.and_true, beq_eq_false_iff_ne]
  exact fun e => h e.symm
 conv => lhs; unfold Lib.index
 rw [hp]
 simp
theorem splitC_eq (c : UInt8) : ∀ s : Bs, Lib.splitK [c] 0 (Lib.count s [c]) s = splitC c s
 | [] => by rw [Lib.count_miss (by rfl)]; rfl
 | b :: l => by
  have ih := splitC_eq c l
  unfold splitC
  by_cases hb : b = c
  ·subst hb
   rw [if_pos rfl, Lib.count_hit (i := 0) (by simp) (index1_hit b l), Nat.add_comm]
   simp only [List.length_cons, List.length_nil, Nat.zero_add, List.drop_succ_cons, List.drop_zero]
   rw [← ih]
   conv => lhs; unfold Lib.splitK
   rw [index1_hit]
   simp
  ·rw [if_neg hb]
   have hp := index1_pass hb l
   rcases Lib.index_spec l [c] with ⟨h1, _⟩ | ⟨i, h1, h2, _, _⟩
   ·rw [if_pos h1] at hp
    rw [Lib.count_miss hp]
    rw [Lib.count_miss h1] at ih
    rw [← ih]
    rfl
   ·rw [if_neg (by omega), h1] at hp
    have hp' : Lib.index (b :: l) [c] = ((i + 1 : Nat) : Int) := by omega
    rw [Lib.count_hit (by simp) hp', Nat.add_comm]
    rw [Lib.count_hit (by simp) h1, Nat.add_comm] at ih
    simp only [List.length_cons, List.length_nil, Nat.zero_add, List.drop_succ_cons] at ih ⊢
    conv at ih => lhs; unfold Lib.splitK
    conv => lhs; unfold Lib.splitK
    rw [hp', if_neg (by rw [beq_iff_eq]; omega)]
    rw [h1, if_neg (by rw [beq_iff_eq]; omega)] at ih
    rw [← ih]
    simp [show ((i : Int) + 1).toNat = i + 1 by omega]
theorem cutC_eq (c : UInt8) : ∀ s : Bs, (Lib.cut s [c]).1 = (cutC c s).1 ∧ (Lib.cut s [c]).2.1 = (cutC c s).2
 | [] => by unfold Lib.cut; exact ⟨rfl, rfl⟩
 | b :: l => by
  have ih := cutC_eq c l
  unfold cutC
  by_cases hb : b = c
  ·subst hb
   rw [if_pos rfl]
   unfold Lib.cut
   rw [index1_hit]
   simp
  ·rw [if_neg hb]
   have hp := index1_pass hb l
   unfold Lib.cut at ih ⊢
   rcases Lib.index_spec l [c] with ⟨h1, _⟩ | ⟨i, h1, h2, _, _⟩
   ·rw [if_pos h1] at hp
    rw [hp, if_neg (by decide)]
    rw [h1, if_neg (by decide)] at ih
    exact ⟨by rw [← ih.1], ih.2⟩
   ·rw [if_neg (by omega), h1] at hp
    rw [hp, if_pos (by omega)]
    rw [h1, if_pos (by omega)] at ih
    simp only [show ((i : Int) + 1).toNat = i + 1 by omega, Int.toNat_natCast, List.length_cons, List.length_nil, Nat.zero_add, List.take_succ_cons, List.drop_succ_cons] at ih ⊢
    exact ⟨by rw [ih.1], ih.2⟩
theorem splitC_ne (c : UInt8) (s : Bs) : splitC c s ≠ [] := by
 cases s with
 | nil => simp [splitC]
 | cons b l =>
  unfold splitC
  split
  ·simp
  ·split <;> simp
theorem splitC_len (c : UInt8) : ∀ s : Bs, (splitC c s).length ≤ s.length + 1 ∧ 1 ≤ (splitC c s).length ∧ ∀ u ∈ splitC c s, u.length ≤ s.length
 | [] => by unfold splitC; exact ⟨Nat.le_refl _, Nat.le_refl _, fun u hu => by simp at hu; rw [hu]; exact Nat.le_refl _⟩
 | b :: l => by
  obtain ⟨h1, h2, h3⟩ := splitC_len c l
  unfold splitC
  split
  ·refine ⟨by simp; omega, by simp, fun u hu => ?_⟩
   rcases List.mem_cons.1 hu with rfl | hu
   ·simp
   ·have := h3 u hu; simp; omega
  ·split
   ·rename_i h t he
    rw [he] at h1 h3
    refine ⟨by simp at *; omega, by simp, fun u hu => ?_⟩
    rcases List.mem_cons.1 hu with rfl | hu
    ·have := h3 h (List.mem_cons_self ..); simp; omega
    ·have := h3 u (List.mem_cons_of_mem _ hu); simp; omega
   ·rename_i he; rw [he] at h2; simp at h2
theorem cutC_len (c : UInt8) : ∀ s : Bs, (cutC c s).1.length ≤ s.length ∧ (cutC c s).2.length ≤ s.length
 | [] => ⟨Nat.le_refl _, Nat.le_refl _⟩
 | b :: l => by
  obtain ⟨h1, h2⟩ := cutC_len c l
  unfold cutC
  split
  ·exact ⟨by simp, by simp⟩
  ·exact ⟨by simp; omega, by simp; omega⟩
theorem map_bs : ∀ l : List ByteArray, l.map Value.string = strs (l.map (·.data.toList))
 | [] => rfl
 | b :: l => by
  have ih := map_bs l
  unfold strs at *
  simp only [List.map_cons]
  rw [ih]
  rfl
theorem splitB_any (c : UInt8) (s : Bs) : (Lib.splitB ⟨#[c]⟩ 0 (Lib.countB (bs s) ⟨#[c]⟩) (bs s)).map Value.string = strs (splitC c s) := by
 rw [map_bs, Lib.splitB_data, ← splitC_eq]
 rfl
theorem countB_any (c : UInt8) : ∀ s : Bs, Lib.count s [c] + 1 = (splitC c s).length
 | [] => by rw [Lib.count_miss (by rfl)]; rfl
 | b :: l => by
  have ih := countB_any c l
  unfold splitC
  by_cases hb : b = c
  ·subst hb
   rw [if_pos rfl, Lib.count_hit (i := 0) (by simp) (index1_hit b l)]
   simp
   omega
  ·rw [if_neg hb]
   have hp := index1_pass hb l
   have hl : Lib.count (b :: l) [c] = Lib.count l [c] := by
    rcases Lib.index_spec l [c] with ⟨h1, _⟩ | ⟨i, h1, h2, _, _⟩
    ·rw [if_pos h1] at hp
     rw [Lib.count_miss hp, Lib.count_miss h1]
    ·rw [if_neg (by omega), h1] at hp
     have hp' : Lib.index (b :: l) [c] = ((i + 1 : Nat) : Int) := by omega
     rw [Lib.count_hit (by simp) hp', Lib.count_hit (by simp) h1]
     simp
   rw [hl]
   split
   ·rename_i h t he
    rw [he] at ih
    simpa using ih
   ·rename_i he
    exact absurd he (splitC_ne c l)
set_option maxHeartbeats 1000000 in
theorem split_any (c : UInt8) (s : Bs) (hs : s.length ≤ 1000000000) (w : World) (hE : TEnv w) :
  Calls Tryz.prog 66 #[.string (bs s), .string ⟨#[c]⟩] w fun e w' => e = .returned (.slice (some ⟨w.heap.size, 0, none⟩) (splitC c s).length (splitC c s).length) ∧ Rd w' [] 1 (some ⟨w.heap.size, 0, none⟩) (splitC c s).length (strs (splitC c s)) ∧ Keeps [] w w' := by
 obtain ⟨m, hm⟩ := hE.mlen
 refine (Tryz.strings_Split (bs s) ⟨#[c]⟩ m w (by rw [bs_size]; omega) hm (Nat.le_refl 1)).mono ?_
 rintro e w' ⟨rfl, rfl⟩
 have e1 : Lib.countB (bs s) ⟨#[c]⟩ + 1 = (splitC c s).length := countB_any c s
 rw [e1]
 refine ⟨rfl, ?_, (Keeps.refl _ _).alloc _⟩
 rw [splitB_any]
 refine ⟨by rw [strs_length, Nat.mul_one], fun _ => ⟨_, rfl, by simp, by simp, fun j u hu => ?_⟩⟩
 have h := (Blk.new w 9 (strs (splitC c s)).toArray).cell j
 rw [add_at, Nat.zero_add]
 rw [h]
 simpa using hu
theorem split_at (c : UInt8) (s : Bs) (hs : s.length ≤ 1000000000) (w : World) (hE : TEnv w) :
  Calls Tryz.prog 66 #[.string (bs s), .string ⟨#[c]⟩] w fun e w' => ∃ b o, e = .returned (.slice (some ⟨b, o, none⟩) (splitC c s).length (splitC c s).length) ∧ w.heap.size ≤ b ∧ b < w'.heap.size ∧ (∀ j u, (strs (splitC c s))[j]? = some u → w'.cell? ⟨b, o + j, none⟩ = some u) ∧ Keeps [] w w' := by
 refine (split_any c s hs w hE).mono ?_
 rintro e w' ⟨rfl, h, hk⟩
 obtain ⟨b, o, hA, _, hb, hc⟩ := h.open' (splitC_len c s).2.1 (by decide)
 exact ⟨b, o, by rw [hA], by injection hA with hA; injection hA with hA; omega, hb, hc, hk⟩
set_option maxHeartbeats 1000000 in
theorem cut1_any (c : UInt8) (s : Bs) (hs : s.length ≤ 1000000000) (w : World) (hE : TEnv w) :
  Calls Tryz.prog 69 #[.string (bs s), .string ⟨#[c]⟩] w fun e w' => (∃ b, e = .returned (.tuple #[.string (bs (cutC c s).1), .string (bs (cutC c s).2), .bool b])) ∧ Keeps [] w w' := by
 obtain ⟨m, hm⟩ := hE.mlen
 refine (Tryz.strings_Cut (bs s) ⟨#[c]⟩ m w (by rw [bs_size]; omega) hm).mono ?_
 rintro e w' ⟨rfl, n, rfl⟩
 have h1 := cutC_eq c s
 refine ⟨⟨(Lib.cut s [c]).2.2, ?_⟩, (Keeps.refl _ _).drewN _⟩
 rw [← h1.1, ← h1.2]
 rfl
end Go.Proofs.YtpagiajlefejcaaGreatDoor
