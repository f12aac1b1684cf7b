/- The reference of sums: plain facts of words. -/
import Derived.Test.YtkklmogcohlbhaaDoorSumR
import Derived.Test.YtkklmogcohlbhaaDoorSum
namespace Go.Proofs.YtkklmogcohlbhaaDoor
theorem byteAt_ok (M : Bs) (i : Nat) : 0 ≤ byteAt M i ∧ byteAt M i < 256 := by
  unfold byteAt
  have := UInt8.toNat_lt (M.getD i 0)
  omega
theorem byteAt_take (M : Bs) {n i : Nat} (h : i < n) : byteAt (M.take n) i = byteAt M i := by
  unfold byteAt
  rw [List.getD_eq_getElem?_getD, List.getD_eq_getElem?_getD, List.getElem?_take_of_lt h]
/-- A word out of the first j of its four bytes. -/
def pw (M : Bs) (t : Nat) : Nat → Int
  | 0 => 0
  | j + 1 => (pw M t j * 256 + byteAt M (4 * t + j)) % 4294967296
theorem word_sum {a b c d : Int} (ha : 0 ≤ a ∧ a < 256) (hb : 0 ≤ b ∧ b < 256) (hc : 0 ≤ c ∧ c < 256) (hd : 0 ≤ d ∧ d < 256) : wordOf a b c d = ((a * 256 + b) * 256 + c) * 256 + d ∧ W32 (wordOf a b c d) := by
  obtain ⟨a, rfl⟩ := Int.eq_ofNat_of_zero_le ha.1
  obtain ⟨b, rfl⟩ := Int.eq_ofNat_of_zero_le hb.1
  obtain ⟨c, rfl⟩ := Int.eq_ofNat_of_zero_le hc.1
  obtain ⟨d, rfl⟩ := Int.eq_ofNat_of_zero_le hd.1
  have e1 : (a : Int) % 4294967296 * 16777216 % 4294967296 = ((a * 16777216 : Nat) : Int) := by omega
  have e2 : (b : Int) % 4294967296 * 65536 % 4294967296 = ((b * 65536 : Nat) : Int) := by omega
  have e3 : (c : Int) % 4294967296 * 256 % 4294967296 = ((c * 256 : Nat) : Int) := by omega
  have e4 : (d : Int) % 4294967296 = ((d : Nat) : Int) := by omega
  unfold wordOf
  rw [e1, e2, e3, e4, u32_or_nat _ _ (by omega) (by omega), nat_join 24 _ _ (by omega) (by omega), u32_or_nat _ _ (by omega) (by omega), nat_join 16 _ _ (by omega) (by omega), u32_or_nat _ _ (by omega) (by omega), nat_join 8 _ _ (by omega) (by omega)]
  exact ⟨by omega, W32.of_nat (by omega)⟩
theorem pw_four (M : Bs) (t : Nat) : pw M t 4 = word16 M t := by
  have h0 := byteAt_ok M (4 * t + 0)
  have h1 := byteAt_ok M (4 * t + 1)
  have h2 := byteAt_ok M (4 * t + 2)
  have h3 := byteAt_ok M (4 * t + 3)
  have hs := (word_sum h0 h1 h2 h3).1
  unfold word16
  rw [Nat.add_zero] at hs h0
  rw [hs]
  simp only [pw, Nat.add_zero]
  omega
theorem w32_word16 (M : Bs) (t : Nat) : W32 (word16 M t) := (word_sum (byteAt_ok M _) (byteAt_ok M _) (byteAt_ok M _) (byteAt_ok M _)).2
theorem w32_sched (M : Bs) (i : Nat) : W32 (sched M i) := by
  by_cases h : i < 16
  · rw [sched_lo M i h]; exact w32_word16 M i
  · rw [sched, dif_neg h]; exact w32_mod _
theorem w32_rot {x : Int} (hx : W32 x) {n : Nat} (hn : n ≤ 32) : W32 (rotI x n) := by
  have := rot_sum hx hn
  unfold rotI
  rw [← this.1]
  exact this.2
theorem w32_rounds {M : Bs} {H : Nat → Int} (hH : ∀ j, j < 8 → W32 (H j)) : ∀ k j, j < 8 → W32 (rounds8 M H k j)
  | 0, j, hj => hH j hj
  | k + 1, j, hj => by
    have ih := w32_rounds hH k (M := M)
    show W32 (rnd (rounds8 M H k) (kt k) (sched M k) j)
    rcases (show j = 0 ∨ j = 1 ∨ j = 2 ∨ j = 3 ∨ j = 4 ∨ j = 5 ∨ j = 6 ∨ j = 7 by omega) with rfl | rfl | rfl | rfl | rfl | rfl | rfl | rfl
    · exact w32_mod _
    · exact ih 0 (by omega)
    · exact ih 1 (by omega)
    · exact ih 2 (by omega)
    · exact w32_mod _
    · exact ih 4 (by omega)
    · exact ih 5 (by omega)
    · exact ih 6 (by omega)
theorem w32_h0 : ∀ j, j < 8 → W32 (h0 j) := fun j hj => by
  rcases (show j = 0 ∨ j = 1 ∨ j = 2 ∨ j = 3 ∨ j = 4 ∨ j = 5 ∨ j = 6 ∨ j = 7 by omega) with rfl | rfl | rfl | rfl | rfl | rfl | rfl | rfl
  all_goals exact ⟨by decide, by decide⟩
theorem w32_sha (P : Bs) : ∀ k j, j < 8 → W32 (shaSt P k j)
  | 0, j, hj => w32_h0 j hj
  | k + 1, _, _ => w32_mod _
/-- One of the words that are reckoned. -/
theorem sched_ref {M : Bs} {t a b c d : Nat} (h : 16 ≤ t) (ha : a + 16 = t) (hb : b + 15 = t) (hc : c + 7 = t) (hd : d + 2 = t) : (s1 (sched M d) + sched M c + s0 (sched M b) + sched M a) % 4294967296 = sched M t := by
  rw [sched_hi M t a b c d h ha hb hc hd]
  congr 1
  omega
theorem rnd_ref {V : Nat → Int} (hV : ∀ j, j < 8 → W32 (V j)) (K W : Int) :
    (V 7 + e1 (V 4) + bits .xor .u32 (V 6) (bits .and .u32 (V 4) (bits .xor .u32 (V 5) (V 6))) + K + W + (e0 (V 0) + bits .or .u32 (bits .and .u32 (V 0) (V 1)) (bits .and .u32 (V 2) (bits .or .u32 (V 0) (V 1))))) % 4294967296 = rnd V K W 0 ∧
    (V 3 + (V 7 + e1 (V 4) + bits .xor .u32 (V 6) (bits .and .u32 (V 4) (bits .xor .u32 (V 5) (V 6))) + K + W)) % 4294967296 = rnd V K W 4 := by
  rw [ch_eq (hV 4 (by omega)) (hV 5 (by omega)) (hV 6 (by omega)), maj_eq (hV 0 (by omega)) (hV 1 (by omega)) (hV 2 (by omega))]
  exact ⟨rfl, rfl⟩
theorem kt_nat {j : Nat} (hj : j < 64) : kt j = ((kNat.getD j 0 : Nat) : Int) := by
  have h : ((List.range 64).all fun j => decide (kt j = ((kNat.getD j 0 : Nat) : Int))) = true := by kernel_rfl
  exact of_decide_eq_true ((List.all_eq_true.1 h) j (List.mem_range.2 hj))
theorem h0_nat {j : Nat} (hj : j < 8) : h0 j = ((hNat.getD j 0 : Nat) : Int) := by
  have h : ((List.range 8).all fun j => decide (h0 j = ((hNat.getD j 0 : Nat) : Int))) = true := by kernel_rfl
  exact of_decide_eq_true ((List.all_eq_true.1 h) j (List.mem_range.2 hj))
end Go.Proofs.YtkklmogcohlbhaaDoor
