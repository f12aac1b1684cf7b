/- SHA-256's choice and majority, written in two ways; a turn as a sum. No program in sight. -/
import Derived.Test.YtkklmogcohlbhaaDoorBase
import Derived.Laws.BitsAllLaws
namespace Go.Proofs.YtkklmogcohlbhaaDoor
open Go.RowKit
/-- A word of 32 bits. -/
def W32 (x : Int) : Prop := 0 ≤ x ∧ x < 4294967296
theorem W32.nat {x : Int} (h : W32 x) : ∃ a : Nat, x = (a : Int) ∧ a < 4294967296 := by
  obtain ⟨a, rfl⟩ := Int.eq_ofNat_of_zero_le h.1
  exact ⟨a, rfl, by have := h.2; omega⟩
theorem W32.of_nat {a : Nat} (h : a < 4294967296) : W32 (a : Int) := ⟨by omega, by omega⟩
theorem w32_mod (x : Int) : W32 (x % 4294967296) := ⟨Int.emod_nonneg _ (by decide), Int.emod_lt_of_pos _ (by decide)⟩
theorem xor_lt {a b : Nat} (ha : a < 4294967296) (hb : b < 4294967296) : a ^^^ b < 4294967296 := Nat.xor_lt_two_pow (n := 32) ha hb
theorem and_lt {a b : Nat} (ha : a < 4294967296) : a &&& b < 4294967296 := Nat.lt_of_le_of_lt Nat.and_le_left ha
theorem or_lt {a b : Nat} (ha : a < 4294967296) (hb : b < 4294967296) : a ||| b < 4294967296 := Nat.or_lt_two_pow (n := 32) ha hb
theorem w32_xor {x y : Int} (hx : W32 x) (hy : W32 y) : W32 (bits .xor .u32 x y) := by
  obtain ⟨a, rfl, ha⟩ := hx.nat
  obtain ⟨b, rfl, hb⟩ := hy.nat
  rw [u32_xor_nat a b ha hb]
  exact W32.of_nat (xor_lt ha hb)
theorem w32_or {x y : Int} (hx : W32 x) (hy : W32 y) : W32 (bits .or .u32 x y) := by
  obtain ⟨a, rfl, ha⟩ := hx.nat
  obtain ⟨b, rfl, hb⟩ := hy.nat
  rw [u32_or_nat a b ha hb]
  exact W32.of_nat (or_lt ha hb)
theorem bit_hi {a i : Nat} (h : a < 4294967296) (hi : 32 ≤ i) : a.testBit i = false := Nat.testBit_lt_two_pow (Nat.lt_of_lt_of_le (show a < 2 ^ 32 from h) (Nat.pow_le_pow_right (by decide) hi))
theorem ch_nat {a b c : Nat} (hc : c < 4294967296) : c ^^^ (a &&& (b ^^^ c)) = (a &&& b) ^^^ ((4294967295 ^^^ a) &&& c) := by
  apply Nat.eq_of_testBit_eq
  intro i
  simp only [Nat.testBit_xor, Nat.testBit_and]
  by_cases hi : i < 32
  · have hm : (4294967295 : Nat).testBit i = true := by
      have := Nat.testBit_two_pow_sub_one 32 i
      rw [show (4294967295 : Nat) = 2 ^ 32 - 1 by decide, this]
      simpa using hi
    rw [hm]
    cases a.testBit i <;> cases b.testBit i <;> cases c.testBit i <;> rfl
  · rw [bit_hi hc (by omega)]
    cases a.testBit i <;> cases b.testBit i <;> simp
theorem maj_nat (a b c : Nat) : (a &&& b) ||| (c &&& (a ||| b)) = ((a &&& b) ^^^ (a &&& c)) ^^^ (b &&& c) := by
  apply Nat.eq_of_testBit_eq
  intro i
  simp only [Nat.testBit_xor, Nat.testBit_and, Nat.testBit_or]
  cases a.testBit i <;> cases b.testBit i <;> cases c.testBit i <;> rfl
theorem ch_eq {x y z : Int} (hx : W32 x) (hy : W32 y) (hz : W32 z) : bits .xor .u32 z (bits .and .u32 x (bits .xor .u32 y z)) = bits .xor .u32 (bits .and .u32 x y) (bits .and .u32 (bits .xor .u32 IntKind.u32.max x) z) := by
  obtain ⟨a, rfl, ha⟩ := hx.nat
  obtain ⟨b, rfl, hb⟩ := hy.nat
  obtain ⟨c, rfl, hc⟩ := hz.nat
  rw [show IntKind.u32.max = ((4294967295 : Nat) : Int) by decide]
  rw [u32_xor_nat b c hb hc, u32_and_nat a _ ha (xor_lt hb hc), u32_xor_nat c _ hc (and_lt ha), u32_and_nat a b ha hb, u32_xor_nat 4294967295 a (by decide) ha, u32_and_nat _ c (xor_lt (by decide) ha) hc, u32_xor_nat _ _ (and_lt ha) (and_lt (xor_lt (by decide) ha)), ch_nat hc]
theorem maj_eq {x y z : Int} (hx : W32 x) (hy : W32 y) (hz : W32 z) : bits .or .u32 (bits .and .u32 x y) (bits .and .u32 z (bits .or .u32 x y)) = bits .xor .u32 (bits .xor .u32 (bits .and .u32 x y) (bits .and .u32 x z)) (bits .and .u32 y z) := by
  obtain ⟨a, rfl, ha⟩ := hx.nat
  obtain ⟨b, rfl, hb⟩ := hy.nat
  obtain ⟨c, rfl, hc⟩ := hz.nat
  rw [u32_and_nat a b ha hb, u32_or_nat a b ha hb, u32_and_nat c _ hc (or_lt ha hb), u32_or_nat _ _ (and_lt ha) (and_lt hc), u32_and_nat a c ha hc, u32_and_nat b c hb hc, u32_xor_nat _ _ (and_lt ha) (and_lt ha), u32_xor_nat _ _ (xor_lt (and_lt ha) (and_lt ha)) (and_lt hb), maj_nat]
/-- A turn of bits, as a sum. -/
theorem rot_sum {x : Int} (hx : W32 x) {n : Nat} (hn : n ≤ 32) : x / 2 ^ n + x * 2 ^ (32 - n) % 4294967296 = bits .or .u32 (x / 2 ^ n) (x * 2 ^ (32 - n) % 4294967296) ∧ W32 (x / 2 ^ n + x * 2 ^ (32 - n) % 4294967296) := by
  obtain ⟨a, rfl, ha⟩ := hx.nat
  have e1 : ((a : Int) / 2 ^ n) = ((a / 2 ^ n : Nat) : Int) := by rw [Int.natCast_ediv, Int.natCast_pow]; rfl
  have e2 : ((a : Int) * 2 ^ (32 - n) % 4294967296) = ((a * 2 ^ (32 - n) % 4294967296 : Nat) : Int) := by rw [Int.natCast_emod, Int.natCast_mul, Int.natCast_pow]; rfl
  have h1 : a / 2 ^ n < 2 ^ (32 - n) := by
    rw [Nat.div_lt_iff_lt_mul (Nat.two_pow_pos n), ← Nat.pow_add, show 32 - n + n = 32 by omega]
    exact ha
  have h2 : a * 2 ^ (32 - n) % 4294967296 = a % 2 ^ n * 2 ^ (32 - n) := by
    rw [show (4294967296 : Nat) = 2 ^ n * 2 ^ (32 - n) by rw [← Nat.pow_add, show n + (32 - n) = 32 by omega], Nat.mul_mod_mul_right]
  have h3 : a / 2 ^ n < 4294967296 := Nat.lt_of_le_of_lt (Nat.div_le_self _ _) ha
  have h4 : a * 2 ^ (32 - n) % 4294967296 < 4294967296 := Nat.mod_lt _ (by decide)
  have h5 : a * 2 ^ (32 - n) % 4294967296 ||| a / 2 ^ n = a * 2 ^ (32 - n) % 4294967296 + a / 2 ^ n := nat_join (32 - n) _ _ (by rw [h2]; exact Nat.mul_mod_left _ _) h1
  rw [e1, e2, u32_or_nat _ _ h3 h4, Nat.or_comm, h5]
  refine ⟨by rw [Int.natCast_add]; omega, ?_⟩
  have h6 := or_lt h4 h3
  rw [h5] at h6
  rw [← Int.natCast_add, Nat.add_comm]
  exact W32.of_nat h6
end Go.Proofs.YtkklmogcohlbhaaDoor
