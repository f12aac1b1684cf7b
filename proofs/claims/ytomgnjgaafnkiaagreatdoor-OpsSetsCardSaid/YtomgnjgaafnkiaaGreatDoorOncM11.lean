/- table.cut: a line cut at blanks, but not within '. table.ParseValue. table.Print. -/
import Derived.Test.YtomgnjgaafnkiaaGreatDoorOncM7
import Derived.Test.YtomgnjgaafnkiaaGreatDoorOncM5
import Derived.Lib.ConvBytes
namespace Go.Proofs.YtomgnjgaafnkiaaGreatDoor
open Go.RowKit
attribute [local go_sem] bs_size bs_extract bs_append bs_toList
theorem cutS_from (s : Bs) : ∀ k, (cutS s k).2.1 ≤ k ∧ (cutS s k).1.length ≤ k
  | 0 => ⟨Nat.le_refl _, Nat.le_refl _⟩
  | k + 1 => by
    have ih := cutS_from s k
    unfold cutS
    simp only
    split
    · exact ⟨by simp only; omega, by simp only; omega⟩
    · split
      · exact ⟨Nat.le_refl _, by simp; omega⟩
      · omega
theorem cutS_len (s : Bs) : ∀ k, ∀ u ∈ (cutS s k).1, u.length ≤ s.length
  | 0, u, hu => by cases hu
  | k + 1, u, hu => by
    have ih := cutS_len s k
    unfold cutS at hu
    simp only at hu
    split at hu
    · exact ih u hu
    · split at hu
      · rcases List.mem_append.1 hu with hu | hu
        · exact ih u hu
        · rw [List.mem_singleton] at hu
          subst hu
          rw [List.length_drop, List.length_take]
          omega
      · exact ih u hu
theorem cutL_len (s : Bs) : ∀ u ∈ cutL s, u.length ≤ s.length := fun u hu => by
  unfold cutL at hu
  rcases List.mem_append.1 hu with hu | hu
  · exact cutS_len s _ u hu
  · rw [List.mem_singleton] at hu
    subst hu
    rw [List.length_drop]
    omega
set_option maxRecDepth 100000 in
set_option maxHeartbeats 4000000 in
theorem cut_any (s : Bs) (hs : s.length ≤ 1000000) (w : World) :
    Calls Tryz.prog 57 #[.string (bs s)] w fun e w' => ∃ A c, e = .returned (.slice A (cutL s).length c) ∧ w'.ownsRow w.heap.size 9 1 (.slice A (cutL s).length c) (cutL s).length (strs (cutL s)) ∧ Keeps [] w w' := by
  obtain ⟨i0, hi, hz0, hz1, hz2⟩ := info_parts sinfo
  go_enter Tryz.func57, Tryz.ntmps57
  go_wp2
  go_loopw [3, 4, 5, 9] (fun v f q i wr => ∃ n : Nat, n ≤ s.length ∧ i = .int .i64 n ∧ f = .int .i64 ((cutS s n).2.1 : Nat) ∧ q = .bool (cutS s n).2.2 ∧ wr.ownsRow w.heap.size 9 1 v (cutS s n).1.length (strs (cutS s n).1) ∧ Keeps [] w wr) (fun _ _ _ i _ => s.length - (intOf i).toNat)
  case atStart => exact ⟨0, Nat.zero_le _, rfl, rfl, rfl, World.ownsRow_nil _ _ _ _, Keeps.refl _ _⟩
  case round =>
    obtain ⟨n, hn, rfl, rfl, rfl, hown, hk⟩ := hrel
    have hfl := cutS_from s n
    by_cases hlt : n < s.length
    · have hg : s.getD n 0 = s[n] := by rw [List.getD_eq_getElem?_getD, List.getElem?_eq_getElem hlt]; rfl
      have hstep : cutS s (n + 1) = (if s[n] = 39 then ((cutS s n).1, (cutS s n).2.1, !(cutS s n).2.2) else if s[n] = 32 && !(cutS s n).2.2 then ((cutS s n).1 ++ [(s.take n).drop (cutS s n).2.1], n + 1, (cutS s n).2.2) else cutS s n) := by
        conv => lhs; unfold cutS
        simp only [hg]
      generalize hcs : cutS s n = r at *
      obtain ⟨o, f, q⟩ := r
      simp only at hfl hstep hown
      have hbyte : ((bs s)[n]'(by rw [bs_size]; exact hlt)) = s[n] := bs_get s n _
      generalize s[n] = b at *
      have h39 : b = 39 ↔ (b.toNat : Int) = 39 := ⟨fun h => by rw [h]; rfl, fun h => UInt8.toNat_inj.1 (by have : (39 : UInt8).toNat = 39 := rfl; omega)⟩
      have h32 : b = 32 ↔ (b.toNat : Int) = 32 := ⟨fun h => by rw [h]; rfl, fun h => UInt8.toNat_inj.1 (by have : (32 : UInt8).toNat = 32 := rfl; omega)⟩
      have HO := Lib.hid hown
      have HK := Lib.hid hk
      clear hown hk hg hcs
      by_cases e39 : b = 39
      · rw [if_pos e39] at hstep
        have t1 : ((b.toNat : Int) == 39) = true := by rw [beq_iff_eq]; exact h39.1 e39
        have HST := Lib.hid hstep
        clear hstep h39 h32 e39
        go_wp2
        go_roundw
        case rel => exact ⟨n + 1, by omega, by go_num, by rw [HST.out], by rw [HST.out], by rw [HST.out]; exact HO.out, HK.out⟩
        case measure => simp [intOf]; omega
      · rw [if_neg e39] at hstep
        have t1 : ((b.toNat : Int) == 39) = false := by rw [beq_eq_false_iff_ne]; exact fun h => e39 (h39.2 h)
        by_cases e32 : b = 32
        · have t2 : ((b.toNat : Int) == 32) = true := by rw [beq_iff_eq]; exact h32.1 e32
          cases q with
          | true =>
            rw [if_neg (by simp)] at hstep
            have HST := Lib.hid hstep
            clear hstep h39 h32 e39 e32
            go_wp2
            go_roundw
            case rel => exact ⟨n + 1, by omega, by go_num, by rw [HST.out], by rw [HST.out], by rw [HST.out]; exact HO.out, HK.out⟩
            case measure => simp [intOf]; omega
          | false =>
            rw [if_pos (by simp [e32])] at hstep
            have HST := Lib.hid hstep
            have hsl := fun W => slice_str (P := Tryz.prog) Tryz.underlying9 s f n hfl.1 hn W
            have hbd := Lib.hid (show o.length + 1 ≤ maxLen ∧ (o.length + 1) * 16 ≤ 140737488355328 by simp only [maxLen]; omega)
            have HWZ := Lib.hid (show w.heap.size ≤ wr.heap.size + 1 from Nat.le_succ_of_le HK.out.size)
            clear hstep h39 h32 e39 e32
            go_wp2_with (at_builtin; refine wpList_append_lies _ rfl _ _ 30 rfl _ 9 i0 _ 1 16 Tryz.underlying30 hi hz0 hz1 hz2 rfl (by decide) _ o.length (strs o) rfl (HO.out.alloc _) ⟨wr.heap.size, 0, none⟩ 1 1 [.string (bs ((s.take n).drop f))] rfl rfl (World.news_of_block (heap_alloc_new _ _)) (by simp [Value.oneCell']) (by decide) hbd.out.1 hbd.out.2 (by simp; exact HWZ.out) _ rfl ?_; intro gw cap2 w8 hown8 hgrow8 hat8 hlt8)
            have HK8 := Lib.hid ((HK.out.alloc _).grown hgrow8 (fun g hg => .inr (HO.out.lt g hg).1))
            rw [← strs_snoc] at hown8
            have HO8 := Lib.hid hown8
            have ho1 : (o ++ [(s.take n).drop f]).length = o.length + 1 := by simp
            have HO1 := Lib.hid ho1
            clear hown8 hgrow8 hat8 hlt8 ho1 hsl
            go_wp2
            go_roundw
            case rel => exact ⟨n + 1, by omega, by go_num, by rw [HST.out]; show Value.int IntKind.i64 ((n : Int) + 1) = .int .i64 ((n + 1 : Nat) : Int); go_num, by rw [HST.out], by rw [HST.out]; simp only; rw [HO1.out]; exact HO8.out, HK8.out⟩
            case measure => simp [intOf]; omega
        · rw [if_neg (by simp [e32])] at hstep
          have t2 : ((b.toNat : Int) == 32) = false := by rw [beq_eq_false_iff_ne]; exact fun h => e32 (h32.2 h)
          have HST := Lib.hid hstep
          clear hstep h39 h32 e39 e32
          go_wp2
          go_roundw
          case rel => exact ⟨n + 1, by omega, by go_num, by rw [HST.out], by rw [HST.out], by rw [HST.out]; exact HO.out, HK.out⟩
          case measure => simp [intOf]; omega
    · obtain rfl : n = s.length := by omega
      have hcl : cutL s = (cutS s s.length).1 ++ [s.drop (cutS s s.length).2.1] := rfl
      generalize hcs : cutS s s.length = r at *
      obtain ⟨o, f, q⟩ := r
      simp only at hfl hown hcl
      have HCL := Lib.hid hcl
      have hll : (cutL s).length = o.length + 1 := by rw [hcl]; simp
      have HLL := Lib.hid hll
      have HO := Lib.hid hown
      have HK := Lib.hid hk
      have hbd := Lib.hid (show o.length + 1 ≤ maxLen ∧ (o.length + 1) * 16 ≤ 140737488355328 by simp only [maxLen]; omega)
      have HWZ := Lib.hid (show w.heap.size ≤ wr.heap.size + 1 from Nat.le_succ_of_le HK.out.size)
      have hfs : (f : Int) ≤ (s.length : Int) := by omega
      have hdr : (s.take s.length).drop f = s.drop f := by rw [List.take_of_length_le (Nat.le_refl _)]
      have HDR := Lib.hid hdr
      clear hown hk hcl hcs hll hdr
      go_wp2_with (at_builtin; refine wpList_append_lies _ rfl _ _ 30 rfl _ 9 i0 _ 1 16 Tryz.underlying30 hi hz0 hz1 hz2 rfl (by decide) _ o.length (strs o) rfl (HO.out.alloc _) ⟨wr.heap.size, 0, none⟩ 1 1 [.string (bs (s.drop f))] rfl rfl (World.news_of_block (heap_alloc_new _ _)) (by simp [Value.oneCell']) (by decide) hbd.out.1 hbd.out.2 (by simp; exact HWZ.out) _ rfl ?_; intro gw cap2 w8 hown8 hgrow8 hat8 hlt8)
      have HK8 := Lib.hid ((HK.out.alloc _).grown hgrow8 (fun g hg => .inr (HO.out.lt g hg).1))
      rw [← strs_snoc, ← HCL.out] at hown8
      have HO8 := Lib.hid hown8
      clear hown8 hgrow8 hat8 hlt8
      go_ret
      exact ⟨some ⟨gw, 0, none⟩, cap2, by rw [HLL.out]; rfl, by rw [HLL.out]; exact HO8.out, HK8.out⟩
end Go.Proofs.YtomgnjgaafnkiaaGreatDoor
namespace Go.Proofs.YtomgnjgaafnkiaaGreatDoor
open Go.RowKit Go.Sort
attribute [local go_sem] bs_size bs_extract bs_append bs_toList
theorem atoi_ok {l : Bs} {v : Int} (h : Lib.atoiAll l = .ok v) : numOk v := by
  unfold Lib.atoiAll at h
  split at h
  · cases h
  · simp only at h
    split at h
    · cases h
    · cases h
    · rename_i u _
      split at h
      · cases h
      · split at h
        · cases h
        · injection h with h
          subst h
          unfold numOk
          split <;> omega
/-- strconv.Atoi, as far as a table asks. -/
theorem atoi_any (s : Bs) (hs : s.length ≤ 1000000000) (w : World) (hE : TEnv w) :
    (∃ v, Lib.atoiAll s = .ok v ∧ numOk v ∧ Calls Tryz.prog 84 #[.string (bs s)] w fun e w' => e = .returned (.tuple #[.int .i64 v, .nilIface]) ∧ Keeps [] w w') ∨
    ((∀ v, Lib.atoiAll s ≠ .ok v) ∧ Calls Tryz.prog 84 #[.string (bs s)] w fun e w' => (∃ n t p, e = .returned (.tuple #[.int .i64 n, .iface t p])) ∧ Keeps [] w w') := by
  rcases h : Lib.atoiAll s with v | _ | _
  ·
    left
    refine ⟨v, rfl, atoi_ok h, (Tryz.strconv_Atoi_ok (bs s) (by rw [bs_size]; omega) v h w).mono ?_⟩
    rintro e w' ⟨rfl, hw⟩
    refine ⟨rfl, ?_⟩
    rcases hw with rfl | ⟨t, rfl⟩
    · exact Keeps.refl _ _
    · exact Keeps.of_below (Lib.bytesWorld_below _ _ _)
  ·
    right
    refine ⟨fun v hv => (by cases hv), ?_⟩
    obtain ⟨t, p, hc⟩ := hE.esyn
    refine (Tryz.strconv_Atoi_syntax (bs s) (by rw [bs_size]; omega) h (.iface t p) w hc (.inr ⟨_, _, rfl⟩)).mono ?_
    rintro e w' ⟨N, rfl, _, _, hb⟩
    exact ⟨⟨_, _, _, rfl⟩, Keeps.of_below hb⟩
  ·
    right
    refine ⟨fun v hv => (by cases hv), ?_⟩
    obtain ⟨t, p, hc⟩ := hE.erng
    refine (Tryz.strconv_Atoi_range (bs s) (by rw [bs_size]; omega) h (.iface t p) w hc (.inr ⟨_, _, rfl⟩)).mono ?_
    rintro e w' ⟨N, rfl, _, _, hb⟩
    exact ⟨⟨_, _, _, rfl⟩, Keeps.of_below hb⟩
def zeroV : Value := .agg #[.int .i64 0, .int .i64 0, .string (bs [])]
/-- What ParseValue hands back. -/
def pvRes : Option Vl → Value
  | some v => .tuple #[vAgg v, .nilIface]
  | none => .tuple #[zeroV, .iface 74 (.int .i64 3)]
set_option maxRecDepth 100000 in
set_option maxHeartbeats 4000000 in
theorem pval_quoted (s : Bs) (hs : s.length ≤ 1000000000) (w : World) (hq : quoted s = true) :
    Calls Tryz.prog 58 #[.string (bs s)] w fun e w' => e = .returned (pvRes (pvL s)) ∧ Keeps [] w w' := by
  have hpv : pvL s = if rvB ⟨2, 0, (s.take (s.length - 1)).drop 1⟩ then some ⟨2, 0, (s.take (s.length - 1)).drop 1⟩ else none := by
    unfold pvL pv0
    rw [if_pos hq]
  rw [hpv]
  unfold quoted at hq
  simp only [Bool.and_eq_true, decide_eq_true_eq] at hq
  obtain ⟨⟨h2, h0⟩, h1⟩ := hq
  have hk0 : 0 < (bs s).size := by rw [bs_size]; omega
  have g0 : ((bs s)[0]'hk0) = 39 := by
    rw [bs_get]
    rw [List.getD_eq_getElem?_getD, List.getElem?_eq_getElem (by omega)] at h0
    exact h0
  obtain ⟨k, hk, hk'⟩ : ∃ k, s.length - 1 = k ∧ k + 1 = s.length := ⟨s.length - 1, rfl, by omega⟩
  rw [hk] at h1 ⊢
  have hks : k < (bs s).size := by rw [bs_size]; omega
  have g1 : ((bs s)[k]'hks) = 39 := by
    rw [bs_get]
    rw [List.getD_eq_getElem?_getD, List.getElem?_eq_getElem (by omega)] at h1
    exact h1
  have e1 : (s.length : Int) - 1 = (k : Int) := by omega
  have l2 : (2 : Int) ≤ (s.length : Int) := by omega
  have l3 : (1 : Int) ≤ (k : Int) := by omega
  have l4 : (k : Int) < (s.length : Int) := by omega
  have hsl : ∀ W, (Instr.slice 9 (.string (bs s)) (some (.int .i64 1)) (some (.int .i64 (k : Int))) none).run Tryz.prog W = .ok (.string (bs ((s.take k).drop 1))) W := fun W => slice_str (P := Tryz.prog) Tryz.underlying9 s 1 k (by omega) (by omega) W
  have hrv := fun W => rightValue_any ⟨2, 0, (s.take k).drop 1⟩ W
  generalize (s.take k).drop 1 = u at *
  have hb39 : (((39 : UInt8).toNat : Int) == 39) = true := rfl
  clear h0 h1 h2 hk hpv
  have HK' := Lib.hid hk'
  clear hk'
  cases hr : rvB ⟨2, 0, u⟩ with
  | true =>
    rw [hr] at hrv
    have HRV := Lib.hid hrv
    clear hrv hr
    show Calls _ _ _ _ fun e w' => e = .returned (.tuple #[.agg #[.int .i64 2, .int .i64 0, .string (bs u)], .nilIface]) ∧ Keeps [] w w'
    go_enter Tryz.func58, Tryz.ntmps58
    go_wp2_with (go_at_call 50; refine (HRV.out _).mono ?_; rintro e w6 ⟨rfl, hk6⟩; have c0 := hk6.cell_of (p := ⟨w.heap.size, 0, none⟩) (v := .int .i64 0) (by simp) (by simp); have c1 := hk6.cell_of (p := ⟨w.heap.size, 1, none⟩) (v := .int .i64 0) (by simp) (by simp); have c2 := hk6.cell_of (p := ⟨w.heap.size, 2, none⟩) (v := .string ⟨#[]⟩) (by simp) (by simp); have f0 : w6.frozen? ⟨w.heap.size, 0, none⟩ = false := (hk6.frozen (p := ⟨w.heap.size, 0, none⟩) (by simp; omega) (by simp)).trans (by simp); have f1 : w6.frozen? ⟨w.heap.size, 1, none⟩ = false := (hk6.frozen (p := ⟨w.heap.size, 1, none⟩) (by simp; omega) (by simp)).trans (by simp); have f2 : w6.frozen? ⟨w.heap.size, 2, none⟩ = false := (hk6.frozen (p := ⟨w.heap.size, 2, none⟩) (by simp; omega) (by simp)).trans (by simp); have d0 := hk6.cell_of (p := ⟨w.heap.size + 1, 0, none⟩) (v := .int .i64 2) (by simp) (by simp); have d1 := hk6.cell_of (p := ⟨w.heap.size + 1, 1, none⟩) (v := .int .i64 0) (by simp) (by simp); have d2 := hk6.cell_of (p := ⟨w.heap.size + 1, 2, none⟩) (v := .string (bs u)) (by simp) (by simp))
    refine bodyPost_ret (v := .tuple #[.agg #[.int .i64 2, .int .i64 0, .string (bs u)], .nilIface]) (by simp [results, Tryz.results58, go_sem, c0, c1, c2]) rfl ⟨rfl, ?_⟩
    refine Keeps.setCell (Keeps.setCell (Keeps.setCell (Keeps.trans ?_ hk6) (.inr (Nat.le_refl _)) _) (.inr (Nat.le_refl _)) _) (.inr (Nat.le_refl _)) _
    repeat first | exact Keeps.refl _ _ | refine Keeps.alloc ?_ _ | refine Keeps.setCell ?_ (.inr (by simp)) _
  | false =>
    rw [hr] at hrv
    have HRV := Lib.hid hrv
    clear hrv hr
    show Calls _ _ _ _ fun e w' => e = .returned (.tuple #[.agg #[.int .i64 0, .int .i64 0, .string (bs [])], .iface 74 (.int .i64 3)]) ∧ Keeps [] w w'
    go_enter Tryz.func58, Tryz.ntmps58
    go_wp2_with (go_at_call 50; refine (HRV.out _).mono ?_; rintro e w6 ⟨rfl, hk6⟩; have c0 := hk6.cell_of (p := ⟨w.heap.size, 0, none⟩) (v := .int .i64 0) (by simp) (by simp); have c1 := hk6.cell_of (p := ⟨w.heap.size, 1, none⟩) (v := .int .i64 0) (by simp) (by simp); have c2 := hk6.cell_of (p := ⟨w.heap.size, 2, none⟩) (v := .string ⟨#[]⟩) (by simp) (by simp); have f0 : w6.frozen? ⟨w.heap.size, 0, none⟩ = false := (hk6.frozen (p := ⟨w.heap.size, 0, none⟩) (by simp; omega) (by simp)).trans (by simp); have f1 : w6.frozen? ⟨w.heap.size, 1, none⟩ = false := (hk6.frozen (p := ⟨w.heap.size, 1, none⟩) (by simp; omega) (by simp)).trans (by simp); have f2 : w6.frozen? ⟨w.heap.size, 2, none⟩ = false := (hk6.frozen (p := ⟨w.heap.size, 2, none⟩) (by simp; omega) (by simp)).trans (by simp); have d0 := hk6.cell_of (p := ⟨w.heap.size + 1, 0, none⟩) (v := .int .i64 2) (by simp) (by simp); have d1 := hk6.cell_of (p := ⟨w.heap.size + 1, 1, none⟩) (v := .int .i64 0) (by simp) (by simp); have d2 := hk6.cell_of (p := ⟨w.heap.size + 1, 2, none⟩) (v := .string (bs u)) (by simp) (by simp))
    refine bodyPost_ret (v := .tuple #[.agg #[.int .i64 0, .int .i64 0, .string (bs [])], .iface 74 (.int .i64 3)]) (by simp [results, Tryz.results58, go_sem, c0, c1, c2]; try rfl) rfl ⟨rfl, ?_⟩
    refine Keeps.setCell (Keeps.setCell (Keeps.setCell (Keeps.trans ?_ hk6) (.inr (Nat.le_refl _)) _) (.inr (Nat.le_refl _)) _) (.inr (Nat.le_refl _)) _
    repeat first | exact Keeps.refl _ _ | refine Keeps.alloc ?_ _ | refine Keeps.setCell ?_ (.inr (by simp)) _
/-- What is asked of a text that is not quoted: each way by which Go's test fails. -/
theorem not_quoted {s : Bs} (h : quoted s = false) : s.length < 2 ∨ (∃ h0 : 0 < (bs s).size, (2 : Int) ≤ (s.length : Int) ∧ ((((bs s)[0]'h0).toNat : Int) == 39) = false) ∨
    (∃ (h0 : 0 < (bs s).size) (k : Nat) (hk : k < (bs s).size), (2 : Int) ≤ (s.length : Int) ∧ (s.length : Int) - 1 = (k : Int) ∧ ((((bs s)[0]'h0).toNat : Int) == 39) = true ∧ ((((bs s)[k]'hk).toNat : Int) == 39) = false) := by
  by_cases h2 : s.length < 2
  · exact .inl h2
  · right
    have h0 : 0 < (bs s).size := by rw [bs_size]; omega
    have key : ∀ (k : Nat) (hk : k < (bs s).size), ((((bs s)[k]'hk).toNat : Int) == 39) = decide (s.getD k 0 = 39) := fun k hk => by
      have hk' : k < s.length := by rw [bs_size] at hk; exact hk
      rw [bs_get, List.getD_eq_getElem?_getD, List.getElem?_eq_getElem hk', Option.getD_some, Bool.eq_iff_iff, beq_iff_eq, decide_eq_true_iff]
      constructor
      · intro h; exact UInt8.toNat_inj.1 (by have : (39 : UInt8).toNat = 39 := rfl; omega)
      · intro h; rw [h]; rfl
    unfold quoted at h
    rw [decide_eq_true (show 2 ≤ s.length by omega), Bool.true_and, Bool.and_eq_false_iff] at h
    by_cases e0 : s.getD 0 0 = 39
    · right
      have hk : s.length - 1 < (bs s).size := by rw [bs_size]; omega
      refine ⟨h0, s.length - 1, hk, by omega, by omega, by rw [key, decide_eq_true e0], ?_⟩
      rw [key]
      rcases h with h | h
      · rw [decide_eq_true e0] at h; cases h
      · exact h
    · left
      exact ⟨h0, by omega, by rw [key, decide_eq_false e0]⟩
set_option maxRecDepth 100000 in
set_option maxHeartbeats 8000000 in
theorem pval_plain (s : Bs) (hs : s.length ≤ 1000000000) (w : World) (hE : TEnv w) (hq : quoted s = false) :
    Calls Tryz.prog 58 #[.string (bs s)] w fun e w' => e = .returned (pvRes (pvL s)) ∧ Keeps [] w w' := by
  have hpv : pvL s = match (match Lib.atoiAll s with | .ok n => if Lib.itoa n = s then some (⟨1, n, []⟩ : Vl) else none | _ => none) with | some v => if rvB v then some v else none | none => none := by
    unfold pvL pv0
    rw [hq]; rfl
  have hat := fun W (q : Keeps [] w W) => atoi_any s hs W (hE.quiet q)
  have HE := Lib.hid hE
  have HQ := Lib.hid (not_quoted hq)
  clear hE hq
  have HK0 := Lib.hid (((Keeps.refl [] w).alloc (.cells #[.int .i64 0, .int .i64 0, .string ⟨#[]⟩] 32)).alloc (.cells #[.int .i64 2, .int .i64 0, .string ⟨#[]⟩] 32))
  have HB0 := Lib.hid ((Blk.new w 32 #[.int .i64 0, .int .i64 0, .string ⟨#[]⟩]).alloc (.cells #[.int .i64 2, .int .i64 0, .string ⟨#[]⟩] 32))
  have hb1 := Blk.new (w.alloc (.cells #[.int .i64 0, .int .i64 0, .string ⟨#[]⟩] 32)) 32 #[.int .i64 2, .int .i64 0, .string ⟨#[]⟩]
  rw [show (w.alloc (.cells #[.int .i64 0, .int .i64 0, .string ⟨#[]⟩] 32)).heap.size = w.heap.size + 1 from Array.size_push _] at hb1
  have HB1 := Lib.hid hb1
  clear hb1
  rcases ha : Lib.atoiAll s with n | _ | _
  ·
    rw [ha] at hpv
    have hno := atoi_ok ha
    have hat2 : ∀ W (_ : Keeps [] w W), Calls Tryz.prog 84 #[.string (bs s)] W fun e w' => e = .returned (.tuple #[.int .i64 n, .nilIface]) ∧ Keeps [] W w' := fun W q => by
      rcases hat W q with ⟨v, h1, h2, h3⟩ | ⟨h1, h3⟩
      · rw [ha] at h1; injection h1 with h1; subst h1; exact h3
      · exact absurd ha (h1 n)
    have hit : ∀ W (_ : Keeps [] w W), Calls Tryz.prog 85 #[.int .i64 n] W fun e w' => e = .returned (.string (bs (Lib.itoa n))) ∧ Keeps [] W w' := fun W q => by
      refine (Tryz.strconv_Itoa n hno.1 hno.2 W (HE.out.quiet q).p10).mono ?_
      rintro e w' ⟨rfl, k2, os, rfl⟩
      exact ⟨rfl, ((Keeps.refl _ _).drewN _).trans (keeps_grow _ _)⟩
    have HAT := Lib.hid hat2
    have HIT := Lib.hid hit
    clear hat hat2 hit ha hno
    by_cases hi : Lib.itoa n = s
    · have hpv2 : pvL s = if rvB ⟨1, n, []⟩ then some ⟨1, n, []⟩ else none := by rw [hpv]; simp only [if_pos hi]
      rw [hpv2]
      have hrv := fun W => rightValue_any ⟨1, n, []⟩ W
      have hbe : (Lib.itoa n == s) = true := by rw [beq_iff_eq]; exact hi
      clear hpv hpv2 hi
      cases hr : rvB ⟨1, n, []⟩ with
      | true =>
        rw [hr] at hrv
        have HRV := Lib.hid hrv
        clear hrv hr
        show Calls _ _ _ _ fun e w' => e = .returned (.tuple #[.agg #[.int .i64 1, .int .i64 n, .string (bs [])], .nilIface]) ∧ Keeps [] w w'
        rcases HQ.out with l2 | ⟨h0, l2, b0⟩ | ⟨h0, k, hk, l2, e1, b0, b1⟩
        all_goals
          go_enter Tryz.func58, Tryz.ntmps58
          go_wp2_with (first | (go_at_call 84; refine (HAT.out _ HK0.out).mono ?_; rintro e w6 ⟨rfl, hk6⟩) | (go_at_call 85; refine (HIT.out _ (HK0.out.trans hk6)).mono ?_; rintro e w7 ⟨rfl, hk7⟩; have B0 := (HB0.out.keep hk6 (by simp)).keep hk7 (by simp); have B1 := (HB1.out.keep hk6 (by simp)).keep hk7 (by simp); have c0 : w7.cell? ⟨w.heap.size, 0, none⟩ = some (.int .i64 0) := B0.cell 0; have c1 : w7.cell? ⟨w.heap.size, 1, none⟩ = some (.int .i64 0) := B0.cell 1; have c2 : w7.cell? ⟨w.heap.size, 2, none⟩ = some (.string ⟨#[]⟩) := B0.cell 2; have f0 := B0.frozen 0; have f1 := B0.frozen 1; have f2 := B0.frozen 2; have d0 : w7.cell? ⟨w.heap.size + 1, 0, none⟩ = some (.int .i64 2) := B1.cell 0; have d1 : w7.cell? ⟨w.heap.size + 1, 1, none⟩ = some (.int .i64 0) := B1.cell 1; have d2 : w7.cell? ⟨w.heap.size + 1, 2, none⟩ = some (.string ⟨#[]⟩) := B1.cell 2; have g0 := B1.frozen 0; have g1 := B1.frozen 1; have g2 := B1.frozen 2) | (go_at_call 50; refine (HRV.out _).mono ?_; rintro e w8 ⟨rfl, hk8⟩; have B0' := ((((B0.far (p := ⟨w.heap.size + 1, 0, none⟩) (by simp) (.int .i64 1)).far (p := ⟨w.heap.size + 1, 1, none⟩) (by simp) (.int .i64 n)).far (p := ⟨w.heap.size + 1, 2, none⟩) (by simp) (.string ⟨#[]⟩)).keep hk8 (by simp)); have x0 : w8.cell? ⟨w.heap.size, 0, none⟩ = some (.int .i64 0) := B0'.cell 0; have x1 : w8.cell? ⟨w.heap.size, 1, none⟩ = some (.int .i64 0) := B0'.cell 1; have x2 : w8.cell? ⟨w.heap.size, 2, none⟩ = some (.string ⟨#[]⟩) := B0'.cell 2; have y0 := B0'.frozen 0; have y1 := B0'.frozen 1; have y2 := B0'.frozen 2; have z := (((B1.set 0 (.int .i64 1)).set 1 (.int .i64 n)).set 2 (.string ⟨#[]⟩)).keep hk8 (by simp); have z0 : w8.cell? ⟨w.heap.size + 1, 0, none⟩ = some (.int .i64 1) := z.cell 0; have z1 : w8.cell? ⟨w.heap.size + 1, 1, none⟩ = some (.int .i64 n) := z.cell 1; have z2 : w8.cell? ⟨w.heap.size + 1, 2, none⟩ = some (.string ⟨#[]⟩) := z.cell 2))
          refine bodyPost_ret (v := .tuple #[.agg #[.int .i64 1, .int .i64 n, .string (bs [])], .nilIface]) (by simp [results, Tryz.results58, go_sem, x0, x1, x2]; try rfl) rfl ⟨rfl, ?_⟩
          refine Keeps.setCell (Keeps.setCell (Keeps.setCell ?_ (.inr (Nat.le_refl _)) _) (.inr (Nat.le_refl _)) _) (.inr (Nat.le_refl _)) _
          exact Keeps.trans (Keeps.setCell (Keeps.setCell (Keeps.setCell ((HK0.out.trans hk6).trans hk7) (.inr (Nat.le_succ _)) _) (.inr (Nat.le_succ _)) _) (.inr (Nat.le_succ _)) _) hk8
      | false =>
        rw [hr] at hrv
        have HRV := Lib.hid hrv
        clear hrv hr
        show Calls _ _ _ _ fun e w' => e = .returned (.tuple #[.agg #[.int .i64 0, .int .i64 0, .string (bs [])], .iface 74 (.int .i64 3)]) ∧ Keeps [] w w'
        rcases HQ.out with l2 | ⟨h0, l2, b0⟩ | ⟨h0, k, hk, l2, e1, b0, b1⟩
        all_goals
          go_enter Tryz.func58, Tryz.ntmps58
          go_wp2_with (first | (go_at_call 84; refine (HAT.out _ HK0.out).mono ?_; rintro e w6 ⟨rfl, hk6⟩) | (go_at_call 85; refine (HIT.out _ (HK0.out.trans hk6)).mono ?_; rintro e w7 ⟨rfl, hk7⟩; have B0 := (HB0.out.keep hk6 (by simp)).keep hk7 (by simp); have B1 := (HB1.out.keep hk6 (by simp)).keep hk7 (by simp); have c0 : w7.cell? ⟨w.heap.size, 0, none⟩ = some (.int .i64 0) := B0.cell 0; have c1 : w7.cell? ⟨w.heap.size, 1, none⟩ = some (.int .i64 0) := B0.cell 1; have c2 : w7.cell? ⟨w.heap.size, 2, none⟩ = some (.string ⟨#[]⟩) := B0.cell 2; have f0 := B0.frozen 0; have f1 := B0.frozen 1; have f2 := B0.frozen 2; have d0 : w7.cell? ⟨w.heap.size + 1, 0, none⟩ = some (.int .i64 2) := B1.cell 0; have d1 : w7.cell? ⟨w.heap.size + 1, 1, none⟩ = some (.int .i64 0) := B1.cell 1; have d2 : w7.cell? ⟨w.heap.size + 1, 2, none⟩ = some (.string ⟨#[]⟩) := B1.cell 2; have g0 := B1.frozen 0; have g1 := B1.frozen 1; have g2 := B1.frozen 2) | (go_at_call 50; refine (HRV.out _).mono ?_; rintro e w8 ⟨rfl, hk8⟩; have B0' := ((((B0.far (p := ⟨w.heap.size + 1, 0, none⟩) (by simp) (.int .i64 1)).far (p := ⟨w.heap.size + 1, 1, none⟩) (by simp) (.int .i64 n)).far (p := ⟨w.heap.size + 1, 2, none⟩) (by simp) (.string ⟨#[]⟩)).keep hk8 (by simp)); have x0 : w8.cell? ⟨w.heap.size, 0, none⟩ = some (.int .i64 0) := B0'.cell 0; have x1 : w8.cell? ⟨w.heap.size, 1, none⟩ = some (.int .i64 0) := B0'.cell 1; have x2 : w8.cell? ⟨w.heap.size, 2, none⟩ = some (.string ⟨#[]⟩) := B0'.cell 2; have y0 := B0'.frozen 0; have y1 := B0'.frozen 1; have y2 := B0'.frozen 2; have z := (((B1.set 0 (.int .i64 1)).set 1 (.int .i64 n)).set 2 (.string ⟨#[]⟩)).keep hk8 (by simp); have z0 : w8.cell? ⟨w.heap.size + 1, 0, none⟩ = some (.int .i64 1) := z.cell 0; have z1 : w8.cell? ⟨w.heap.size + 1, 1, none⟩ = some (.int .i64 n) := z.cell 1; have z2 : w8.cell? ⟨w.heap.size + 1, 2, none⟩ = some (.string ⟨#[]⟩) := z.cell 2))
          refine bodyPost_ret (v := .tuple #[.agg #[.int .i64 0, .int .i64 0, .string (bs [])], .iface 74 (.int .i64 3)]) (by simp [results, Tryz.results58, go_sem, x0, x1, x2]; try rfl) rfl ⟨rfl, ?_⟩
          refine Keeps.setCell (Keeps.setCell (Keeps.setCell ?_ (.inr (Nat.le_refl _)) _) (.inr (Nat.le_refl _)) _) (.inr (Nat.le_refl _)) _
          exact Keeps.trans (Keeps.setCell (Keeps.setCell (Keeps.setCell ((HK0.out.trans hk6).trans hk7) (.inr (Nat.le_succ _)) _) (.inr (Nat.le_succ _)) _) (.inr (Nat.le_succ _)) _) hk8
    · have hpv2 : pvL s = none := by rw [hpv]; simp only [if_neg hi]
      rw [hpv2]
      have hbe : (Lib.itoa n == s) = false := by rw [beq_eq_false_iff_ne]; exact hi
      clear hpv hpv2 hi
      show Calls _ _ _ _ fun e w' => e = .returned (.tuple #[.agg #[.int .i64 0, .int .i64 0, .string (bs [])], .iface 74 (.int .i64 3)]) ∧ Keeps [] w w'
      rcases HQ.out with l2 | ⟨h0, l2, b0⟩ | ⟨h0, k, hk, l2, e1, b0, b1⟩
      all_goals
        go_enter Tryz.func58, Tryz.ntmps58
        go_wp2_with (first | (go_at_call 84; refine (HAT.out _ HK0.out).mono ?_; rintro e w6 ⟨rfl, hk6⟩) | (go_at_call 85; refine (HIT.out _ (HK0.out.trans hk6)).mono ?_; rintro e w7 ⟨rfl, hk7⟩; have B0 := (HB0.out.keep hk6 (by simp)).keep hk7 (by simp); have B1 := (HB1.out.keep hk6 (by simp)).keep hk7 (by simp); have c0 : w7.cell? ⟨w.heap.size, 0, none⟩ = some (.int .i64 0) := B0.cell 0; have c1 : w7.cell? ⟨w.heap.size, 1, none⟩ = some (.int .i64 0) := B0.cell 1; have c2 : w7.cell? ⟨w.heap.size, 2, none⟩ = some (.string ⟨#[]⟩) := B0.cell 2; have f0 := B0.frozen 0; have f1 := B0.frozen 1; have f2 := B0.frozen 2; have d0 : w7.cell? ⟨w.heap.size + 1, 0, none⟩ = some (.int .i64 2) := B1.cell 0; have d1 : w7.cell? ⟨w.heap.size + 1, 1, none⟩ = some (.int .i64 0) := B1.cell 1; have d2 : w7.cell? ⟨w.heap.size + 1, 2, none⟩ = some (.string ⟨#[]⟩) := B1.cell 2; have g0 := B1.frozen 0; have g1 := B1.frozen 1; have g2 := B1.frozen 2))
        refine bodyPost_ret (v := .tuple #[.agg #[.int .i64 0, .int .i64 0, .string (bs [])], .iface 74 (.int .i64 3)]) (by simp [results, Tryz.results58, go_sem, c0, c1, c2]; try rfl) rfl ⟨rfl, ?_⟩
        refine Keeps.setCell (Keeps.setCell (Keeps.setCell ?_ (.inr (Nat.le_refl _)) _) (.inr (Nat.le_refl _)) _) (.inr (Nat.le_refl _)) _
        exact (HK0.out.trans hk6).trans hk7
  ·
    rw [ha] at hpv
    have hpv2 : pvL s = none := hpv
    rw [hpv2]
    have hat2 : ∀ W (_ : Keeps [] w W), Calls Tryz.prog 84 #[.string (bs s)] W fun e w' => (∃ n t p, e = .returned (.tuple #[.int .i64 n, .iface t p])) ∧ Keeps [] W w' := fun W q => by
      rcases hat W q with ⟨v, h1, h2, h3⟩ | ⟨h1, h3⟩
      · rw [ha] at h1; cases h1
      · exact h3
    have HAT := Lib.hid hat2
    clear hat hat2 hpv hpv2 ha
    show Calls _ _ _ _ fun e w' => e = .returned (.tuple #[.agg #[.int .i64 0, .int .i64 0, .string (bs [])], .iface 74 (.int .i64 3)]) ∧ Keeps [] w w'
    rcases HQ.out with l2 | ⟨h0, l2, b0⟩ | ⟨h0, k, hk, l2, e1, b0, b1⟩
    all_goals
      go_enter Tryz.func58, Tryz.ntmps58
      go_wp2_with (first | (go_at_call 84; refine (HAT.out _ HK0.out).mono ?_; rintro e w6 ⟨⟨n, t, p, rfl⟩, hk6⟩; have B0 := (HB0.out.keep hk6 (by simp)); have c0 : w6.cell? ⟨w.heap.size, 0, none⟩ = some (.int .i64 0) := B0.cell 0; have c1 : w6.cell? ⟨w.heap.size, 1, none⟩ = some (.int .i64 0) := B0.cell 1; have c2 : w6.cell? ⟨w.heap.size, 2, none⟩ = some (.string ⟨#[]⟩) := B0.cell 2; have f0 := B0.frozen 0; have f1 := B0.frozen 1; have f2 := B0.frozen 2))
      refine bodyPost_ret (v := .tuple #[.agg #[.int .i64 0, .int .i64 0, .string (bs [])], .iface 74 (.int .i64 3)]) (by simp [results, Tryz.results58, go_sem, c0, c1, c2]; try rfl) rfl ⟨rfl, ?_⟩
      refine Keeps.setCell (Keeps.setCell (Keeps.setCell ?_ (.inr (Nat.le_refl _)) _) (.inr (Nat.le_refl _)) _) (.inr (Nat.le_refl _)) _
      exact HK0.out.trans hk6
  ·
    rw [ha] at hpv
    have hpv2 : pvL s = none := hpv
    rw [hpv2]
    have hat2 : ∀ W (_ : Keeps [] w W), Calls Tryz.prog 84 #[.string (bs s)] W fun e w' => (∃ n t p, e = .returned (.tuple #[.int .i64 n, .iface t p])) ∧ Keeps [] W w' := fun W q => by
      rcases hat W q with ⟨v, h1, h2, h3⟩ | ⟨h1, h3⟩
      · rw [ha] at h1; cases h1
      · exact h3
    have HAT := Lib.hid hat2
    clear hat hat2 hpv hpv2 ha
    show Calls _ _ _ _ fun e w' => e = .returned (.tuple #[.agg #[.int .i64 0, .int .i64 0, .string (bs [])], .iface 74 (.int .i64 3)]) ∧ Keeps [] w w'
    rcases HQ.out with l2 | ⟨h0, l2, b0⟩ | ⟨h0, k, hk, l2, e1, b0, b1⟩
    all_goals
      go_enter Tryz.func58, Tryz.ntmps58
      go_wp2_with (first | (go_at_call 84; refine (HAT.out _ HK0.out).mono ?_; rintro e w6 ⟨⟨n, t, p, rfl⟩, hk6⟩; have B0 := (HB0.out.keep hk6 (by simp)); have c0 : w6.cell? ⟨w.heap.size, 0, none⟩ = some (.int .i64 0) := B0.cell 0; have c1 : w6.cell? ⟨w.heap.size, 1, none⟩ = some (.int .i64 0) := B0.cell 1; have c2 : w6.cell? ⟨w.heap.size, 2, none⟩ = some (.string ⟨#[]⟩) := B0.cell 2; have f0 := B0.frozen 0; have f1 := B0.frozen 1; have f2 := B0.frozen 2))
      refine bodyPost_ret (v := .tuple #[.agg #[.int .i64 0, .int .i64 0, .string (bs [])], .iface 74 (.int .i64 3)]) (by simp [results, Tryz.results58, go_sem, c0, c1, c2]; try rfl) rfl ⟨rfl, ?_⟩
      refine Keeps.setCell (Keeps.setCell (Keeps.setCell ?_ (.inr (Nat.le_refl _)) _) (.inr (Nat.le_refl _)) _) (.inr (Nat.le_refl _)) _
      exact HK0.out.trans hk6
/-- ParseValue at whatever text. -/
theorem parseValue_any (s : Bs) (hs : s.length ≤ 1000000000) (w : World) (hE : TEnv w) :
    Calls Tryz.prog 58 #[.string (bs s)] w fun e w' => e = .returned (pvRes (pvL s)) ∧ Keeps [] w w' := by
  cases hq : quoted s with
  | true => exact pval_quoted s hs w hq
  | false => exact pval_plain s hs w hE hq
end Go.Proofs.YtomgnjgaafnkiaaGreatDoor
namespace Go.Proofs.YtomgnjgaafnkiaaGreatDoor
open Go.RowKit
attribute [local go_sem] bs_size bs_extract bs_append bs_toList
/-- A table in memory, read alone. -/
structure TabIn (w : World) (t : Tb) (A B : Option Addr) (c d : Nat) : Prop where
  cols : Rd w [] 2 A t.cols.length (csCells t.cols)
  cc : t.cols.length ≤ c
  rows : RdRows w [] B t.rows
  cd : t.rows.length ≤ d
  names : ∀ x ∈ t.cols, x.name.length ≤ 1000000000
  ln : t.cols.length ≤ 4294967296
  lm : t.rows.length ≤ 4294967296
  lr : ∀ r ∈ t.rows, r.length ≤ 4294967296
theorem TabIn.quiet {w w' : World} {t : Tb} {A B : Option Addr} {c d : Nat} (h : TabIn w t A B c d) (hk : Keeps [] w w') : TabIn w' t A B c d :=
  ⟨h.cols.keep hk, h.cc, h.rows.keep hk, h.cd, h.names, h.ln, h.lm, h.lr⟩
theorem TabIn.right {w : World} {t : Tb} {A B : Option Addr} {c d : Nat} (h : TabIn w t A B c d) :
    Calls Tryz.prog 25 #[tAgg A t.cols.length c B t.rows.length d] w fun e w' => e = .returned (.bool (rightB t)) ∧ Keeps [] w w' :=
  right_any t A B c d w h.cols h.cc h.rows h.names h.ln h.lm h.lr
set_option maxRecDepth 100000 in
set_option maxHeartbeats 4000000 in
theorem print_no (t : Tb) (A B : Option Addr) (c d : Nat) (w : World) (hT : TabIn w t A B c d) (hr : rightB t = false) :
    Calls Tryz.prog 41 #[tAgg A t.cols.length c B t.rows.length d] w fun e w' => e = .returned (.tuple #[.string (bs []), .iface 74 (.int .i64 1)]) ∧ Keeps [] w w' := by
  have h := fun W (q : Keeps [] w W) => (hT.quiet q).right
  rw [hr] at h
  have H := Lib.hid h
  clear h hr hT
  show Calls _ _ #[.agg #[.slice A t.cols.length c, .slice B t.rows.length d]] w _
  go_enter Tryz.func41, Tryz.ntmps41
  go_wp2_with (go_at_call 25; refine (H.out _ ((Keeps.refl _ _).alloc _)).mono ?_; rintro e w5 ⟨rfl, hk5⟩)
  go_ret2
  exact ⟨rfl, ((Keeps.refl _ _).alloc _).trans hk5⟩
set_option maxRecDepth 100000 in
set_option maxHeartbeats 8000000 in
theorem print_yes (t : Tb) (A B : Option Addr) (c d : Nat) (w : World) (hT : TabIn w t A B c d) (hE : TEnv w) (hr : rightB t = true) :
    Calls Tryz.prog 41 #[tAgg A t.cols.length c B t.rows.length d] w fun e w' => e = .returned (.tuple #[.string (bs (printL t)), .nilIface]) ∧ Keeps [] w w' := by
  obtain ⟨r1, r2, r3, r4⟩ := rightB_of hr
  have h := fun W (q : Keeps [] w W) => (hT.quiet q).right
  rw [hr] at h
  have H := Lib.hid h
  have HT := Lib.hid hT
  have HE := Lib.hid hE
  have HR := Lib.hid hr
  have R1 := Lib.hid r1
  have R4 := Lib.hid r4
  clear h hr hT hE r1 r4
  show Calls _ _ #[.agg #[.slice A t.cols.length c, .slice B t.rows.length d]] w _
  go_enter Tryz.func41, Tryz.ntmps41
  go_wp2_with (go_at_call 25; refine (H.out _ ((Keeps.refl _ _).alloc _)).mono ?_; rintro e w5 ⟨rfl, hk5⟩; have q0 := hk5.cell_of (p := ⟨w.heap.size, 0, none⟩) (v := .slice A t.cols.length c) (by simp) (by simp); have q1 := hk5.cell_of (p := ⟨w.heap.size, 1, none⟩) (v := .slice B t.rows.length d) (by simp) (by simp); have hlt5 := World.block_lt_of_cell? _ _ q0)
  obtain ⟨bt, hbt⟩ : ∃ bt, w.heap.size = bt := ⟨_, rfl⟩
  have HK5 := Lib.hid (((Keeps.refl [] w).alloc (.cells #[.slice A t.cols.length c, .slice B t.rows.length d] 25)).trans hk5)
  rw [hbt] at q0 q1 hlt5 ⊢
  have Q1 := Lib.hid q1
  have hbld := bld_new w5
  obtain ⟨b, hb⟩ : ∃ b, w5.heap.size = b := ⟨_, rfl⟩
  have hk6 : Keeps [] w5 (w5.alloc (.cells #[.pointer none, .slice none 0 0] 102)) := (Keeps.refl [] w5).alloc _
  have hbs : b < (w5.alloc (.cells #[.pointer none, .slice none 0 0] 102)).heap.size := by simp; omega
  rw [hb] at hbld ⊢
  generalize w5.alloc (.cells #[.pointer none, .slice none 0 0] 102) = W6 at hbld hk6 hbs ⊢
  have HB := Lib.hid hb
  have HBLD := Lib.hid hbld
  have HK6 := Lib.hid hk6
  clear hk5 hbt q0 q1 hbld hb hk6
  go_loopw [18] (fun i wr => ∃ n : Nat, n ≤ t.cols.length ∧ i = .int .i64 n ∧ Bld wr b b (colsT t.cols n) ∧ Keeps [] w5 wr ∧ b < wr.heap.size) (fun i _ => t.cols.length - (intOf i).toNat)
  case atStart => exact ⟨0, Nat.zero_le _, rfl, HBLD.out, HK6.out, hbs⟩
  case round =>
    clear HBLD HK6 hbs
    obtain ⟨n, hn, rfl, hbl, hk, hbs⟩ := hrel
    have hcl := colsT_len R1.out n hn
    by_cases hlt : n < t.cols.length
    · obtain ⟨ba, oa, rfl, _, hba, hcs⟩ := ((HT.out.cols.keep HK5.out).keep hk).open' (by omega) (by omega)
      have d1 := hcs (n * 2) _ (csCells_at t.cols n hlt).1
      have d2 := hcs (n * 2 + 1) _ (csCells_at t.cols n hlt).2
      rw [← Nat.add_assoc] at d2
      obtain ⟨ok1, ok2⟩ := okCol_of R1.out hlt
      have hnx := colsT_succ t.cols n hlt
      have hnl := nameB_len ok1
      generalize t.cols[n] = x at *
      obtain ⟨nm, kd⟩ := x
      simp only at d1 d2 ok2 hnx hnl
      have HNX := Lib.hid hnx
      have HBL := Lib.hid hbl
      have HKK := Lib.hid hk
      clear hcs ok1 hnx hbl hk
      obtain ⟨j, hj, rfl⟩ : ∃ j : Nat, j < 3 ∧ kd = (j : Int) := by
        rcases ok2 with h | h
        · exact ⟨1, by omega, h⟩
        · exact ⟨2, by omega, h⟩
      have hj3 : (j : Int) < 3 := by omega
      have hkw := kindW_len j
      have kk := fun W (q : Keeps [] w W) => (HE.out.quiet q).kinds j hj
      rw [Int.toNat_natCast] at HNX
      generalize kindW j = kw at *
      have KK := Lib.hid kk
      have hws := fun (W W0 : World) (l : Bs) (h : Bld W b b l) (hl : l.length ≤ 1000) (hW : b ≤ W.heap.size) => writeString_any h (nm ++ [58] ++ kw) (by omega) (by simp; omega) hW
      have e58 : bs (nm ++ [58] ++ kw) = bs nm ++ ⟨#[58]⟩ ++ bs kw := by rw [← bs_append, ← bs_append]; rfl
      rw [e58] at hws
      have HWS := Lib.hid hws
      have hA : Blk (wr.alloc (.cells #[.string (bs nm), .int .i64 (j : Int)] 39)) wr.heap.size 39 #[.string (bs nm), .int .i64 (j : Int)] := Blk.new wr _ _
      have hKA : Keeps [] w5 (wr.alloc (.cells #[.string (bs nm), .int .i64 (j : Int)] 39)) := HKK.out.alloc _
      have HA2 := Lib.hid hA
      have HKA := Lib.hid hKA
      have HBA := Lib.hid (HBL.out.alloc (.cells #[.string (bs nm), .int .i64 (j : Int)] 39))
      have hnb : wr.heap.size ≠ b := by omega
      clear hws e58 kk hA hKA ok2
      have hl1 : (9223372036854775807 < nm.length + 1) = False := eq_false (by omega)
      have hl2 : (9223372036854775807 < nm.length + 1 + kw.length) = False := eq_false (by omega)
      by_cases hn0 : (0 : Int) < (n : Int)
      · have hx2 := HNX.out
        rw [if_neg (by omega)] at hx2
        have HX2 := Lib.hid hx2
        have hwb := writeByte_any HBA.out 32 (by omega) (by simp; omega)
        have HWB := Lib.hid hwb
        clear hx2 hwb
        go_wp2_with fail
        refine HWB.out.mono ?_
        rintro e w6 ⟨rfl, h6, hb6, ko6⟩
        have hk6 : Keeps [] w5 w6 := HKA.out.under (HB.out ▸ hb6)
        have hs6 : b ≤ w6.heap.size := by have := hb6.size; simp at this; omega
        have HA6 := Lib.hid (HA2.out.beside ko6 hnb (by decide))
        have H6 := Lib.hid h6
        have HK6 := Lib.hid hk6
        have HS0 := Lib.hid (show (_ ∧ _ ∧ _ : Prop) from ⟨(HA6.out.cell 0), (HA6.out.cell 1), KK.out _ (HK5.out.trans hk6)⟩)
        clear h6 hb6 ko6 hk6
        go_wp2_with fail
        go_region_held3 (fun w' => w'.cell? ⟨wr.heap.size, 0, none⟩ = some (.string (bs nm)) ∧ w'.cell? ⟨wr.heap.size, 1, none⟩ = some (.int .i64 (j : Int)) ∧ w'.cell? ⟨0, j, none⟩ = some (.string (bs kw))) (first | exact HS0.out | exact ⟨(HA6.out.beside ko7 hnb (by decide)).cell 0, (HA6.out.beside ko7 hnb (by decide)).cell 1, KK.out _ (HK5.out.trans (HK6.out.drew.under (HB.out ▸ hb7)))⟩ | go_keep) (first | (go_at_call 60; refine (HWS.out _ wr _ (by exact H6.out.drew) (by rw [List.length_append]; simp only [List.length_cons, List.length_nil]; omega) (by exact hs6)).mono ?_; rintro e w7 ⟨rfl, h7, hb7, ko7⟩))
        have HK7 := Lib.hid (HK6.out.drew.under (HB.out ▸ hb7))
        have H7 := Lib.hid h7
        have HS7 := Lib.hid (show b < w7.heap.size from (by have := hb7.size; have := HS0.out.1; have h9 := World.block_lt_of_cell? _ _ this; have h10 : w6.heap.size ≤ w7.heap.size := hb7.size; simp only at h9; omega))
        clear h7 hb7 ko7
        go_wp2
        go_roundw
        case rel => exact ⟨n + 1, by omega, by go_num, by rw [HX2.out]; exact H7.out, HK7.out, HS7.out⟩
        case measure => simp [intOf]; omega
      · have hx2 := HNX.out
        rw [if_pos (by omega), List.append_nil] at hx2
        have HX2 := Lib.hid hx2
        have HS0 := Lib.hid (show (_ ∧ _ ∧ _ : Prop) from ⟨(HA2.out.cell 0), (HA2.out.cell 1), KK.out _ (HK5.out.trans HKA.out)⟩)
        clear hx2
        go_wp2_with fail
        go_region_held3 (fun w' => w'.cell? ⟨wr.heap.size, 0, none⟩ = some (.string (bs nm)) ∧ w'.cell? ⟨wr.heap.size, 1, none⟩ = some (.int .i64 (j : Int)) ∧ w'.cell? ⟨0, j, none⟩ = some (.string (bs kw))) (first | exact HS0.out | exact ⟨(HA2.out.beside ko7 hnb (by decide)).cell 0, (HA2.out.beside ko7 hnb (by decide)).cell 1, KK.out _ (HK5.out.trans (HKA.out.drew.under (HB.out ▸ hb7)))⟩ | go_keep) (first | (go_at_call 60; refine (HWS.out _ wr _ (by exact HBA.out.drew) (by omega) (by simp; omega)).mono ?_; rintro e w7 ⟨rfl, h7, hb7, ko7⟩))
        have HK7 := Lib.hid (HKA.out.drew.under (HB.out ▸ hb7))
        have H7 := Lib.hid h7
        have HS7 := Lib.hid (show b < w7.heap.size from (by have h10 : (wr.alloc (.cells #[.string (bs nm), .int .i64 (j : Int)] 39)).heap.size ≤ w7.heap.size := hb7.size; simp at h10; omega))
        clear h7 hb7 ko7
        go_wp2
        go_roundw
        case rel => exact ⟨n + 1, by omega, by go_num, by rw [HX2.out]; exact H7.out, HK7.out, HS7.out⟩
        case measure => simp [intOf]; omega
    · obtain rfl : n = t.cols.length := by omega
      have HBL := Lib.hid hbl
      have hwb := writeByte_any HBL.out 10 (by omega) (by omega)
      have HWB := Lib.hid hwb
      have hbtr : bt < wr.heap.size := by have := World.block_lt_of_cell? _ _ Q1.out; have := hk.size; simp only at *; omega
      have q1 := hk.cell_of Q1.out (by simp)
      clear hbl hwb
      go_wp2_with fail
      refine HWB.out.mono ?_
      rintro e w6 ⟨rfl, h6, hb6, ko6⟩
      have hk6 : Keeps [] w5 w6 := hk.under (HB.out ▸ hb6)
      have hs6 : b < w6.heap.size := by have := hb6.size; omega
      have q1 := hk6.cell_of Q1.out (by simp)
      obtain ⟨T0, hT0⟩ : ∃ T0, colsT t.cols t.cols.length ++ [10] = T0 := ⟨_, rfl⟩
      have hT0l : T0.length ≤ 100 := by rw [← hT0, List.length_append]; simp only [List.length_cons, List.length_nil]; omega
      rw [hT0] at h6
      have HT0 := Lib.hid hT0
      have H6 := Lib.hid h6
      have HK6 := Lib.hid hk6
      clear h6 hb6 ko6 hk6 hT0
      go_wp2
      go_loopw [40] (fun i wr => ∃ n : Nat, n ≤ t.rows.length ∧ i = .int .i64 n ∧ Bld wr b b (T0 ++ rowsT t.rows n) ∧ Keeps [] w5 wr ∧ b < wr.heap.size) (fun i _ => t.rows.length - (intOf i).toNat)
      case atStart => exact ⟨0, Nat.zero_le _, rfl, by rw [show rowsT t.rows 0 = [] from rfl, List.append_nil]; exact H6.out, HK6.out, hs6⟩
      case round =>
        clear H6 HK6 hs6 q1
        obtain ⟨n, hn, rfl, hbl, hk2, hbs2⟩ := hrel
        have hrl := rowsT_len HR.out n hn
        by_cases hlt : n < t.rows.length
        · obtain ⟨us, hul, hu1, hu2⟩ := HT.out.rows.keep HK5.out
          obtain ⟨bb, ob, rfl, _, hbb, hcs⟩ := (hu1.keep hk2).open' (by omega) (by omega)
          have d1 := hcs n _ (List.getElem?_eq_getElem (by omega))
          obtain ⟨Ar, cr, hue, hcr, hRr⟩ := hu2 n (by omega) hlt
          rw [hue] at d1
          have hrb := R4.out _ (List.getElem_mem hlt)
          have hnx := rowsT_succ t.rows n hlt
          generalize hr : t.rows[n] = r at *
          have hr6 := (rowB_of hrb).1
          have hrv := (rowB_of hrb).2
          have hrtl := rowT_len hrb
          obtain ⟨T1, hT1⟩ : ∃ T1, T0 ++ rowsT t.rows n = T1 := ⟨_, rfl⟩
          have hT1l : T1.length ≤ 10000 := by rw [← hT1, List.length_append]; omega
          rw [hT1] at hbl
          have HT1 := Lib.hid hT1
          have HBL2 := Lib.hid hbl
          have HNX := Lib.hid hnx
          have HRV := Lib.hid hrv
          have HRTL := Lib.hid hrtl
          have HR6 := Lib.hid hr6
          have hrle : r.length ≤ 6 := by omega
          obtain ⟨wo, hwo⟩ : ∃ wo : World, wo = wr := ⟨_, rfl⟩
          subst hwo
          have HKO := Lib.hid hk2
          have HRr5 := Lib.hid hRr
          clear hcs hu1 hu2 hue hul hrb hr hT1 hbl hnx hrv hrtl hr6 hrl hk2 hRr
          go_wp2
          go_loopw [46] (fun i wr => ∃ m : Nat, m ≤ r.length ∧ i = .int .i64 m ∧ Bld wr b b (T1 ++ rowT r m) ∧ Keeps [] w5 wr ∧ b < wr.heap.size) (fun i _ => r.length - (intOf i).toNat)
          case atStart => exact ⟨0, Nat.zero_le _, rfl, by rw [show rowT r 0 = [] from rfl, List.append_nil]; exact HBL2.out, HKO.out, hbs2⟩
          case round =>
            clear HBL2 HKO hbs2
            obtain ⟨m, hm, rfl, hbl, hk2, hbs2⟩ := hrel
            have hRr := HRr5.out.keep hk2
            have hrtl := HRTL.out m hm
            by_cases hlt2 : m < r.length
            · obtain ⟨b2, o2, rfl, _, hb2, hcs2⟩ := hRr.open' (by omega) (by omega)
              have e1 := hcs2 (m * 3) _ (vsCells_at r m hlt2).1
              have e2 := hcs2 (m * 3 + 1) _ (vsCells_at r m hlt2).2.1
              have e3 := hcs2 (m * 3 + 2) _ (vsCells_at r m hlt2).2.2
              rw [← Nat.add_assoc] at e2 e3
              obtain ⟨v1, v2, v3⟩ := rv_len (HRV.out m hlt2)
              have hnx := rowT_succ r m hlt2
              have hva := fun W q => value_any r[m] v2 (by omega) W (HE.out.quiet q)
              generalize r[m] = x at *
              obtain ⟨xk, xn, xs⟩ := x
              simp only at e1 e2 e3
              generalize hvt : valueL ⟨xk, xn, xs⟩ = vt at *
              have hws := fun (W : World) (l : Bs) (h : Bld W b b l) (hl : l.length ≤ 20000) (hW : b ≤ W.heap.size) => writeString_any h vt (by omega) (by omega) hW
              have HWS := Lib.hid hws
              have HVA := Lib.hid hva
              have HNX2 := Lib.hid hnx
              have hA : Blk (wr.alloc (.cells #[.int .i64 xk, .int .i64 xn, .string (bs xs)] 32)) wr.heap.size 32 #[.int .i64 xk, .int .i64 xn, .string (bs xs)] := Blk.new wr _ _
              have hKA : Keeps [] w5 (wr.alloc (.cells #[.int .i64 xk, .int .i64 xn, .string (bs xs)] 32)) := hk2.alloc _
              have HA2 := Lib.hid hA
              have HKA := Lib.hid hKA
              have HBA := Lib.hid (hbl.alloc (.cells #[.int .i64 xk, .int .i64 xn, .string (bs xs)] 32))
              have hnb : wr.heap.size ≠ b := by omega
              clear hcs2 hws hva hnx hA hKA hbl hk2 hRr hvt
              by_cases hm0 : (0 : Int) < (m : Int)
              · have hx2 := HNX2.out
                rw [if_neg (by omega)] at hx2
                have HX2 := Lib.hid hx2
                have hwb := writeByte_any HBA.out 32 (by rw [List.length_append]; omega) (by simp; omega)
                have HWB := Lib.hid hwb
                clear hx2 hwb
                go_wp2_with fail
                refine HWB.out.mono ?_
                rintro e w6 ⟨rfl, h6, hb6, ko6⟩
                have hk6 : Keeps [] w5 w6 := HKA.out.under (HB.out ▸ hb6)
                have hs6 : b ≤ w6.heap.size := by have := hb6.size; simp at this; omega
                have HA6 := HA2.out.beside ko6 hnb (by decide)
                have s1 : w6.cell? ⟨wr.heap.size, 0, none⟩ = some (.int .i64 xk) := HA6.cell 0
                have s2 : w6.cell? ⟨wr.heap.size, 1, none⟩ = some (.int .i64 xn) := HA6.cell 1
                have s3 : w6.cell? ⟨wr.heap.size, 2, none⟩ = some (.string (bs xs)) := HA6.cell 2
                have H6 := Lib.hid h6
                have HK6 := Lib.hid hk6
                clear h6 hb6 ko6 hk6 HA6
                go_wp2_with fail
                refine (HVA.out _ (HK5.out.trans HK6.out)).mono ?_
                rintro e w7 ⟨rfl, hk7⟩
                have H7 := Lib.hid (H6.out.keep hk7)
                have HK7 := Lib.hid (HK6.out.trans hk7)
                have hs7 : b ≤ w7.heap.size := by have := hk7.size; omega
                clear hk7 s1 s2 s3
                go_wp2_with fail
                refine (HWS.out _ _ H7.out (by rw [List.length_append, List.length_append]; simp only [List.length_cons, List.length_nil]; omega) hs7).mono ?_
                rintro e w8 ⟨rfl, h8, hb8, ko8⟩
                have HK8 := Lib.hid (HK7.out.under (HB.out ▸ hb8))
                have H8 := Lib.hid h8
                have hs8 : b < w8.heap.size := by have := hb8.size; have := HK7.out.size; have := HB.out; have h9 := H7.out.lt; omega
                clear h8 hb8 ko8
                go_wp2
                go_roundw
                case rel => exact ⟨m + 1, by omega, by go_num, by rw [HX2.out, ← List.append_assoc, ← List.append_assoc]; exact H8.out, HK8.out, hs8⟩
                case measure => simp [intOf]; omega
              · have hx2 := HNX2.out
                rw [if_pos (by omega), List.append_nil] at hx2
                have HX2 := Lib.hid hx2
                clear hx2
                have hbs3 : b < wr.heap.size + 1 := by omega
                go_wp2_with fail
                refine (HVA.out _ (HK5.out.trans HKA.out)).mono ?_
                rintro e w7 ⟨rfl, hk7⟩
                have H7 := Lib.hid (HBA.out.keep hk7)
                have HK7 := Lib.hid (HKA.out.trans hk7)
                have hs7 : b ≤ w7.heap.size := by have := hk7.size; simp at this; omega
                clear hk7
                go_wp2_with fail
                refine (HWS.out _ _ H7.out (by rw [List.length_append]; omega) hs7).mono ?_
                rintro e w8 ⟨rfl, h8, hb8, ko8⟩
                have HK8 := Lib.hid (HK7.out.under (HB.out ▸ hb8))
                have H8 := Lib.hid h8
                have hs8 : b < w8.heap.size := by have := hb8.size; have h9 := H7.out.lt; omega
                clear h8 hb8 ko8
                go_wp2
                go_roundw
                case rel => exact ⟨m + 1, by omega, by go_num, by rw [HX2.out, ← List.append_assoc]; exact H8.out, HK8.out, hs8⟩
                case measure => simp [intOf]; omega
            · obtain rfl : m = r.length := by omega
              have hwb := writeByte_any hbl 10 (by rw [List.length_append]; omega) (by omega)
              have HWB := Lib.hid hwb
              have HK2 := Lib.hid hk2
              clear hwb hbl hk2 hRr
              go_wp2_with fail
              refine HWB.out.mono ?_
              rintro e w6 ⟨rfl, h6, hb6, ko6⟩
              have HK6 := Lib.hid (HK2.out.under (HB.out ▸ hb6))
              have H6 := Lib.hid h6
              have hs6 : b < w6.heap.size := by have := hb6.size; omega
              clear h6 hb6 ko6
              go_wp2
              go_roundw
              case rel => exact ⟨n + 1, by omega, by go_num, by rw [HNX.out, ← List.append_assoc, HT1.out, ← List.append_assoc]; exact H6.out, HK6.out, hs6⟩
              case measure => simp [intOf]; omega
        · obtain rfl : n = t.rows.length := by omega
          have HBL2 := Lib.hid hbl
          have HPL : Hid (T0 ++ rowsT t.rows t.rows.length = printL t) := Lib.hid (by rw [← HT0.out]; rfl)
          have hst := Tryz.Builder_String_any b b (T0 ++ rowsT t.rows t.rows.length) wr HBL2.out (by omega)
          have HST := Lib.hid hst
          clear hbl hst
          go_wp2_with fail
          refine HST.out.mono ?_
          rintro e w7 ⟨rfl, hb7⟩
          go_wp2
          go_ret2
          exact ⟨by rw [HPL.out]; rfl, HK5.out.trans (hk2.under (HB.out ▸ hb7))⟩
end Go.Proofs.YtomgnjgaafnkiaaGreatDoor
