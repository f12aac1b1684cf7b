/- The reference of sums: a long number times a word. -/
import Derived.Test.YtkklmogcohlbhaaDoorSumN
namespace Go.Proofs.YtkklmogcohlbhaaDoor
open Go.RowKit Go.BigFrame
attribute [local go_sem] bs_size bs_extract bs_append bs_toList
theorem carry_le {c d x n : Nat} (hc : c ≤ x) (hd : d < 65536) (hn : n = c + d * x) : n / 65536 ≤ x := by
  have : d * x ≤ 65535 * x := Nat.mul_le_mul_right x (by omega)
  omega
theorem digits_le {c x r : Nat} (h : c * 65536 ^ r ≤ x) (hc : 0 < c) (hx : x < 2199023255552) : r ≤ 2 := by
  refine Classical.byContradiction fun hn => ?_
  have h1 : 65536 ^ 3 ≤ 65536 ^ r := Nat.pow_le_pow_right (by decide) (by omega)
  have h2 : 1 * 65536 ^ r ≤ c * 65536 ^ r := Nat.mul_le_mul_right _ hc
  have h3 : (65536 : Nat) ^ 3 = 281474976710656 := by decide
  omega
theorem carry_pow {c x r : Nat} (h : c * 65536 ^ r ≤ x) : c / 65536 * 65536 ^ (r + 1) ≤ x := by
  refine Nat.le_trans ?_ h
  rw [Nat.pow_succ, Nat.mul_comm (65536 ^ r) 65536, ← Nat.mul_assoc]
  exact Nat.mul_le_mul_right _ (Nat.div_mul_le_self _ _)
set_option maxHeartbeats 2000000 in
theorem times_any (D : List Nat) (x : Nat) (hD : dok D) (hx : x < 2199023255552) (hl : D.length ≤ 100) (A : Option Addr) (cp : Nat) (w : World) (hR : Rd w [] 1 A D.length (natVs .u64 D)) :
    Calls Tryd.prog 16 #[.slice A D.length cp, .int .u64 (x : Int)] w fun e w' => (∃ O v, e = .returned v ∧ O.length ≤ D.length + 3 ∧ dok O ∧ dval O = dval D * x ∧ w'.ownsRow w.heap.size 27 1 v O.length (natVs .u64 O)) ∧ Keeps [] w w' := by
  obtain ⟨ii, hi, hz0, hz1, hz2⟩ := info_parts u64info
  have HR := Lib.hid hR
  have HD := Lib.hid hD
  clear hR hD
  go_enter Tryd.func16, Tryd.ntmps16
  go_wp2
  go_loopw [5, 6, 7] (fun v c i wx => ∃ (n k : Nat) (u : Value) (O : List Nat), u = v ∧ n ≤ D.length + 3 ∧ O.length = n ∧ c = .int .u64 (k : Int) ∧ i = .int .i64 (n : Int) ∧ Hid (k * 65536 ^ (n - D.length) ≤ x) ∧ Hid (dok O) ∧ Hid (dval O + 65536 ^ n * (k + dval (D.drop n) * x) = dval D * x) ∧ wx.ownsRow w.heap.size 27 1 u n (natVs .u64 O) ∧ Keeps [] w wx) (fun _ _ i _ => D.length + 3 - (intOf i).toNat)
  case atStart => exact ⟨0, 0, _, [], rfl, Nat.zero_le _, rfl, rfl, rfl, Lib.hid (by simp), Lib.hid (fun x hx => absurd hx (by simp)), Lib.hid (by simp [dval]), World.ownsRow_nil _ _ _ _, Keeps.refl _ _⟩
  case round =>
    obtain ⟨n, k, v, O, rfl, hn, hO, rfl, rfl, HC, HOK, HV, hown, hk⟩ := hrel
    have HO := Lib.hid hown
    have HK := Lib.hid hk
    have HOL := Lib.hid hO
    clear hown hk hO
    have hbd := Lib.hid (show n + 1 ≤ maxLen ∧ (n + 1) * 8 ≤ 140737488355328 by simp only [maxLen]; omega)
    have hz5 := HK.out.size
    have step : ∀ N : Nat, Hid (wr.ownsRow w.heap.size 27 1 v n (natVs .u64 O)) → True := fun _ _ => trivial
    by_cases hlt : n < D.length
    · obtain ⟨b, o, rfl, _, hb, hcs⟩ := HR.out.open' (by omega) (by omega)
      have d0 := HK.out.cell_of (hcs n _ (natVs_at .u64 D n hlt)) (by simp)
      have hd : D[n] < 65536 := HD.out _ (List.getElem_mem hlt)
      have hkx : k ≤ x := by have := HC.out; rw [show n - D.length = 0 by omega] at this; simpa using this
      have hST := times_step (n := k + D[n] * x) HOL.out hlt HV.out rfl
      have hcl := carry_le hkx hd rfl
      clear hcs
      generalize D[n] = d at *
      obtain ⟨q, hq⟩ : ∃ q, d * x = q := ⟨_, rfl⟩
      have hqb : q ≤ 65535 * x := by rw [← hq]; exact Nat.mul_le_mul_right x (by omega)
      have hq2 : (d : Int) * (x : Int) = (q : Int) := by rw [← hq]; exact (Int.natCast_mul _ _).symm
      have w1 : IntKind.u64.wrap (q : Int) = (q : Int) := by rw [IntKind.wrap_u64]; omega
      have w2 : IntKind.u64.wrap ((k : Int) + (q : Int)) = (k : Int) + (q : Int) := by rw [IntKind.wrap_u64]; omega
      have w1' : (q : Int) % 18446744073709551616 = (q : Int) := by omega
      have w2' : ((k : Int) + (q : Int)) % 18446744073709551616 = (k : Int) + (q : Int) := by omega
      rw [hq] at hST hcl
      obtain ⟨N, hN⟩ : ∃ N, k + q = N := ⟨_, rfl⟩
      have hN2 : (k : Int) + (q : Int) = (N : Int) := by omega
      have e1 : (N : Int).tmod 65536 = ((N % 65536 : Nat) : Int) := by rw [Int.tmod_eq_emod_of_nonneg (Int.natCast_nonneg _)]; omega
      have e2 : (N : Int).tdiv 65536 = ((N / 65536 : Nat) : Int) := by rw [Int.tdiv_eq_ediv_of_nonneg (Int.natCast_nonneg _)]; omega
      rw [hN] at hST hcl
      rw [hN2] at w2 w2'
      have HST := Lib.hid hST
      have HCL := Lib.hid hcl
      clear hST hcl hq hqb hN
      have hlt2 : (n : Int) < (D.length : Int) := by omega
      have hd1 := Nat.mod_lt N (show 0 < 65536 by decide)
      obtain ⟨M, hM⟩ : ∃ M, N % 65536 = M := ⟨_, rfl⟩
      obtain ⟨Q, hQ⟩ : ∃ Q, N / 65536 = Q := ⟨_, rfl⟩
      rw [hM] at e1 HST hd1
      rw [hQ] at e2 HST HCL
      have w3 : IntKind.u64.wrap (Q : Int) = (Q : Int) := by have := HCL.out; rw [IntKind.wrap_u64]; omega
      clear hM hQ
      go_wp2_with (at_builtin; refine wpList_append_lies _ rfl _ _ 38 rfl w.heap.size 27 ii _ 1 8 Tryd.underlying38 hi hz0 hz1 hz2 rfl (by decide) _ n (natVs .u64 O) rfl (HO.out.alloc _) ⟨wr.heap.size, 0, none⟩ 1 1 [.int .u64 (M : Int)] rfl rfl (World.news_of_block (heap_alloc_new _ _)) (by simp [Value.oneCell']) (by decide) hbd.out.1 hbd.out.2 (by simp; omega) _ rfl ?_; intro gw cap2 w8 hown8 hgrow8 hat8 hlt8)
      have HK8 := Lib.hid ((HK.out.alloc (.cells #[.int .u64 (M : Int)] 27)).grown hgrow8 (fun g hg => .inr (HO.out.lt g hg).1))
      rw [← natVs_snoc] at hown8
      have HO8 := Lib.hid hown8
      clear hown8 hgrow8 hat8 hlt8
      go_wp2
      go_roundw
      case rel => exact ⟨n + 1, Q, _, O ++ [M], rfl, by omega, by simp [HOL.out], by go_num, by go_num, Lib.hid (by rw [show n + 1 - D.length = 0 by omega]; simpa using HCL.out), Lib.hid (dok_snoc HOK.out hd1), HST, HO8.out, HK8.out⟩
      case measure => simp [intOf]; omega
    · have hlt2 : ¬ (n : Int) < (D.length : Int) := by omega
      by_cases hk0 : k = 0
      · subst hk0
        have hE := times_end (D := D) (O := O) (i := n) (x := x) (by omega) (by simpa using HV.out)
        have HE := Lib.hid hE
        clear hE
        go_wp2
        go_ret
        exact ⟨⟨O, _, rfl, by rw [HOL.out]; exact hn, HOK.out, HE.out, by rw [HOL.out]; exact HO.out⟩, HK.out⟩
      · have hkp : (0 : Int) < (k : Int) := by omega
        have hr := digits_le HC.out (by omega) hx
        have hST := times_rest HOL.out (by omega) HV.out
        have hcp := carry_pow HC.out
        rw [show n - D.length + 1 = n + 1 - D.length by omega] at hcp
        have hd1 := Nat.mod_lt k (show 0 < 65536 by decide)
        have e1 : (k : Int).tmod 65536 = ((k % 65536 : Nat) : Int) := by rw [Int.tmod_eq_emod_of_nonneg (Int.natCast_nonneg _)]; omega
        have e2 : (k : Int).tdiv 65536 = ((k / 65536 : Nat) : Int) := by rw [Int.tdiv_eq_ediv_of_nonneg (Int.natCast_nonneg _)]; omega
        have hkb : k < 2199023255552 := by
          have h1 := HC.out
          have h2 : 1 ≤ 65536 ^ (n - D.length) := Nat.pow_pos (by decide)
          have h3 : k * 1 ≤ k * 65536 ^ (n - D.length) := Nat.mul_le_mul_left k h2
          omega
        obtain ⟨M, hM⟩ : ∃ M, k % 65536 = M := ⟨_, rfl⟩
        obtain ⟨Q, hQ⟩ : ∃ Q, k / 65536 = Q := ⟨_, rfl⟩
        rw [hM] at e1 hST hd1
        rw [hQ] at e2 hST hcp
        have HST := Lib.hid hST
        have HCP := Lib.hid hcp
        have w3 : IntKind.u64.wrap (Q : Int) = (Q : Int) := by rw [IntKind.wrap_u64]; omega
        clear hM hQ hST hcp
        go_wp2_with (at_builtin; refine wpList_append_lies _ rfl _ _ 38 rfl w.heap.size 27 ii _ 1 8 Tryd.underlying38 hi hz0 hz1 hz2 rfl (by decide) _ n (natVs .u64 O) rfl (HO.out.alloc _) ⟨wr.heap.size, 0, none⟩ 1 1 [.int .u64 (M : Int)] rfl rfl (World.news_of_block (heap_alloc_new _ _)) (by simp [Value.oneCell']) (by decide) hbd.out.1 hbd.out.2 (by simp; omega) _ rfl ?_; intro gw cap2 w8 hown8 hgrow8 hat8 hlt8)
        have HK8 := Lib.hid ((HK.out.alloc (.cells #[.int .u64 (M : Int)] 27)).grown hgrow8 (fun g hg => .inr (HO.out.lt g hg).1))
        rw [← natVs_snoc] at hown8
        have HO8 := Lib.hid hown8
        clear hown8 hgrow8 hat8 hlt8
        go_wp2
        go_roundw
        case rel => exact ⟨n + 1, Q, _, O ++ [M], rfl, by omega, by simp [HOL.out], by go_num, by go_num, HCP, Lib.hid (dok_snoc HOK.out hd1), HST, HO8.out, HK8.out⟩
        case measure => simp [intOf]; omega
end Go.Proofs.YtkklmogcohlbhaaDoor
