/- Primes, roots and long numbers, as the reference of sums reckons them. No program in sight. -/
import Derived.Test.YtkklmogcohlbhaaDoorBase
import Derived.KernelRfl
namespace Go.Proofs.YtkklmogcohlbhaaDoor
/-! ### Numbers of digits of 65536, the least first -/
def dval : List Nat → Nat
  | [] => 0
  | d :: ds => d + 65536 * dval ds
def dok (l : List Nat) : Prop := ∀ d ∈ l, d < 65536
theorem dval_append (a b : List Nat) : dval (a ++ b) = dval a + 65536 ^ a.length * dval b := by
  induction a with
  | nil => simp [dval]
  | cons d a ih =>
    simp only [List.cons_append, dval, ih, List.length_cons, Nat.pow_succ]
    rw [Nat.mul_add, ← Nat.mul_assoc, Nat.mul_comm 65536 (65536 ^ a.length)]
    omega
theorem dval_zeros (n : Nat) : dval (List.replicate n 0) = 0 := by
  induction n with
  | zero => rfl
  | succ n ih => rw [List.replicate_succ]; simp [dval, ih]
theorem dval_lt {l : List Nat} (h : dok l) : dval l < 65536 ^ l.length := by
  induction l with
  | nil => simp [dval]
  | cons d l ih =>
    have h1 := h d (List.mem_cons_self ..)
    have h2 := ih fun x hx => h x (List.mem_cons_of_mem _ hx)
    simp only [dval, List.length_cons, Nat.pow_succ]
    omega
theorem dok_snoc {l : List Nat} (h : dok l) {d : Nat} (hd : d < 65536) : dok (l ++ [d]) := by
  intro x hx
  rcases List.mem_append.1 hx with hx | hx
  · exact h x hx
  · rw [List.mem_singleton.1 hx]; exact hd
theorem dval_snoc (l : List Nat) (d : Nat) : dval (l ++ [d]) = dval l + 65536 ^ l.length * d := by
  rw [dval_append]; simp [dval]
/-- One digit of a product: what is carried, and what is behind. -/
theorem times_step {D O : List Nat} {i c x n : Nat} (hO : O.length = i) (hlt : i < D.length) (hv : dval O + 65536 ^ i * (c + dval (D.drop i) * x) = dval D * x) (hn : n = c + D[i] * x) :
    dval (O ++ [n % 65536]) + 65536 ^ (i + 1) * (n / 65536 + dval (D.drop (i + 1)) * x) = dval D * x := by
  rw [List.drop_eq_getElem_cons hlt, dval] at hv
  rw [dval_snoc, hO, ← hv, Nat.pow_succ]
  have h1 : n = 65536 * (n / 65536) + n % 65536 := (Nat.div_add_mod n 65536).symm
  have h2 : c + (D[i] + 65536 * dval (D.drop (i + 1))) * x = n + 65536 * (dval (D.drop (i + 1)) * x) := by
    rw [hn, Nat.add_mul, Nat.mul_assoc]; omega
  rw [h2, Nat.mul_assoc, Nat.add_assoc, ← Nat.mul_add]
  congr 2
  generalize dval (D.drop (i + 1)) * x = y
  omega
theorem times_rest {D O : List Nat} {i c x : Nat} (hO : O.length = i) (hge : D.length ≤ i) (hv : dval O + 65536 ^ i * (c + dval (D.drop i) * x) = dval D * x) :
    dval (O ++ [c % 65536]) + 65536 ^ (i + 1) * (c / 65536 + dval (D.drop (i + 1)) * x) = dval D * x := by
  rw [List.drop_eq_nil_of_le hge] at hv
  rw [List.drop_eq_nil_of_le (by omega), dval_snoc, hO, ← hv, Nat.pow_succ]
  have h1 : c = 65536 * (c / 65536) + c % 65536 := (Nat.div_add_mod c 65536).symm
  simp only [dval, Nat.zero_mul, Nat.add_zero]
  rw [Nat.mul_assoc, Nat.add_assoc, ← Nat.mul_add]
  congr 2
  omega
theorem times_end {D O : List Nat} {i x : Nat} (hge : D.length ≤ i) (hv : dval O + 65536 ^ i * (0 + dval (D.drop i) * x) = dval D * x) : dval O = dval D * x := by
  rw [List.drop_eq_nil_of_le hge] at hv
  simpa [dval] using hv
/-- Compared from the top. -/
theorem above_at {V W : List Nat} (hV : dok V) (hW : dok W) (hl : V.length = W.length) {i : Nat} (hi : i < V.length) (hd : V.drop (i + 1) = W.drop (i + 1)) (hne : V[i] ≠ W[i]'(hl ▸ hi)) :
    decide (dval W < dval V) = decide (W[i]'(hl ▸ hi) < V[i]) := by
  have hi' : i < W.length := hl ▸ hi
  have e1 : dval V = dval (V.take i) + 65536 ^ i * (V[i] + 65536 * dval (V.drop (i + 1))) := by
    conv => lhs; rw [← List.take_append_drop i V, dval_append, List.drop_eq_getElem_cons hi, dval]
    rw [List.length_take, Nat.min_eq_left (Nat.le_of_lt hi)]
  have e2 : dval W = dval (W.take i) + 65536 ^ i * (W[i] + 65536 * dval (V.drop (i + 1))) := by
    conv => lhs; rw [← List.take_append_drop i W, dval_append, List.drop_eq_getElem_cons hi', dval]
    rw [List.length_take, Nat.min_eq_left (Nat.le_of_lt hi'), hd]
  have b1 : dval (V.take i) < 65536 ^ i := by
    have := dval_lt (l := V.take i) fun x hx => hV x (List.mem_of_mem_take hx)
    rwa [List.length_take, Nat.min_eq_left (Nat.le_of_lt hi)] at this
  have b2 : dval (W.take i) < 65536 ^ i := by
    have := dval_lt (l := W.take i) fun x hx => hW x (List.mem_of_mem_take hx)
    rwa [List.length_take, Nat.min_eq_left (Nat.le_of_lt hi')] at this
  rw [e1, e2]
  generalize 65536 ^ i = B at *
  generalize dval (V.take i) = a at *
  generalize dval (W.take i) = b at *
  generalize dval (V.drop (i + 1)) = t at *
  generalize V[i] = x at *
  generalize W[i] = y at *
  rcases Nat.lt_or_gt_of_ne hne with h | h
  · have h1 : B * (x + 65536 * t) + B ≤ B * (y + 65536 * t) := by
      rw [← Nat.mul_succ]; exact Nat.mul_le_mul_left B (by omega)
    rw [decide_eq_false (by omega), decide_eq_false (by omega)]
  · have h1 : B * (y + 65536 * t) + B ≤ B * (x + 65536 * t) := by
      rw [← Nat.mul_succ]; exact Nat.mul_le_mul_left B (by omega)
    rw [decide_eq_true (by omega), decide_eq_true (by omega)]
/-! ### Roots -/
def rootIs (p k x : Nat) : Prop := x ^ k ≤ p * 2 ^ (32 * k) ∧ p * 2 ^ (32 * k) < (x + 1) ^ k
theorem root_one {p k x y : Nat} (hx : rootIs p k x) (hy : rootIs p k y) : x = y := by
  rcases Nat.lt_trichotomy x y with h | h | h
  · have := Nat.pow_le_pow_left (show x + 1 ≤ y by omega) k
    have := hx.2; have := hy.1; omega
  · exact h
  · have := Nat.pow_le_pow_left (show y + 1 ≤ x by omega) k
    have := hy.2; have := hx.1; omega
instance (p k x : Nat) : Decidable (rootIs p k x) := inferInstanceAs (Decidable (_ ∧ _))
/-! ### Primes -/
def prStep (l : List Nat) (k : Nat) : List Nat := if l.all (fun p => k % p != 0) then l ++ [k] else l
/-- Primes up to n + 1. -/
def prL : Nat → List Nat
  | 0 => []
  | n + 1 => prStep (prL n) (n + 2)
theorem prL_two : ∀ n, ∀ p ∈ prL n, 2 ≤ p
  | 0 => by simp [prL]
  | n + 1 => by
    intro p hp
    unfold prL prStep at hp
    split at hp
    · rcases List.mem_append.1 hp with h | h
      · exact prL_two n p h
      · rw [List.mem_singleton.1 h]; omega
    · exact prL_two n p hp
theorem prL_le : ∀ n, ∀ p ∈ prL n, p ≤ n + 1
  | 0 => by simp [prL]
  | n + 1 => by
    intro p hp
    unfold prL prStep at hp
    split at hp
    · rcases List.mem_append.1 hp with h | h
      · exact Nat.le_succ_of_le (prL_le n p h)
      · rw [List.mem_singleton.1 h]; omega
    · exact Nat.le_succ_of_le (prL_le n p hp)
theorem prL_len_succ (n : Nat) : (prL n).length ≤ (prL (n + 1)).length ∧ (prL (n + 1)).length ≤ (prL n).length + 1 := by
  show _ ≤ (prStep (prL n) (n + 2)).length ∧ (prStep (prL n) (n + 2)).length ≤ _
  unfold prStep
  split <;> simp
theorem prL_len_mono {m n : Nat} (h : m ≤ n) : (prL m).length ≤ (prL n).length := by
  induction h with
  | refl => exact Nat.le_refl _
  | step _ ih => exact Nat.le_trans ih (prL_len_succ _).1
set_option maxRecDepth 100000 in
theorem prL_309 : (prL 309).length = 63 := by kernel_rfl
set_option maxRecDepth 100000 in
theorem prL_310 : (prL 310).length = 64 := by kernel_rfl
theorem prL_lt {n : Nat} (h : n < 310) : (prL n).length < 64 := by
  have := prL_len_mono (show n ≤ 309 by omega)
  rw [prL_309] at this
  omega
def primesL : List Nat := prL 310
/-! ### What the tables are -/
def kNat : List Nat := [1116352408, 1899447441, 3049323471, 3921009573, 961987163, 1508970993, 2453635748, 2870763221, 3624381080, 310598401, 607225278, 1426881987, 1925078388, 2162078206, 2614888103, 3248222580, 3835390401, 4022224774, 264347078, 604807628, 770255983, 1249150122, 1555081692, 1996064986, 2554220882, 2821834349, 2952996808, 3210313671, 3336571891, 3584528711, 113926993, 338241895, 666307205, 773529912, 1294757372, 1396182291, 1695183700, 1986661051, 2177026350, 2456956037, 2730485921, 2820302411, 3259730800, 3345764771, 3516065817, 3600352804, 4094571909, 275423344, 430227734, 506948616, 659060556, 883997877, 958139571, 1322822218, 1537002063, 1747873779, 1955562222, 2024104815, 2227730452, 2361852424, 2428436474, 2756734187, 3204031479, 3329325298]
def hNat : List Nat := [1779033703, 3144134277, 1013904242, 2773480762, 1359893119, 2600822924, 528734635, 1541459225]
def whole3 (p : Nat) : Nat := if p < 8 then 1 else if p < 27 then 2 else if p < 64 then 3 else if p < 125 then 4 else if p < 216 then 5 else 6
def whole2 (p : Nat) : Nat := if p < 4 then 1 else if p < 9 then 2 else if p < 16 then 3 else 4
set_option maxRecDepth 100000 in
theorem k_roots : ((List.range 64).all fun i => decide (rootIs (primesL.getD i 0) 3 (whole3 (primesL.getD i 0) * 4294967296 + kNat.getD i 0))) = true := by kernel_rfl
set_option maxRecDepth 100000 in
theorem h_roots : ((List.range 8).all fun i => decide (rootIs (primesL.getD i 0) 2 (whole2 (primesL.getD i 0) * 4294967296 + hNat.getD i 0))) = true := by kernel_rfl
set_option maxRecDepth 100000 in
theorem k_lt : (kNat.all fun x => decide (x < 4294967296)) = true := by kernel_rfl
theorem k_root {i x : Nat} (hi : i < 64) (h : rootIs (primesL.getD i 0) 3 x) : x % 4294967296 = kNat.getD i 0 := by
  have h1 := (List.all_eq_true.1 k_roots) i (List.mem_range.2 hi)
  rw [root_one h (of_decide_eq_true h1)]
  have h2 : kNat.getD i 0 < 4294967296 := by
    rw [List.getD_eq_getElem?_getD]
    cases he : kNat[i]? with
    | none => decide
    | some y => exact of_decide_eq_true ((List.all_eq_true.1 k_lt) y (List.mem_of_getElem? he))
  rw [Nat.add_comm, Nat.add_mul_mod_self_right]
  exact Nat.mod_eq_of_lt h2
theorem h_root {i x : Nat} (hi : i < 8) (h : rootIs (primesL.getD i 0) 2 x) : x % 4294967296 = hNat.getD i 0 := by
  have h1 := (List.all_eq_true.1 h_roots) i (List.mem_range.2 hi)
  rw [root_one h (of_decide_eq_true h1)]
  have h2 : hNat.getD i 0 < 4294967296 := by
    rcases (show i = 0 ∨ i = 1 ∨ i = 2 ∨ i = 3 ∨ i = 4 ∨ i = 5 ∨ i = 6 ∨ i = 7 by omega) with rfl | rfl | rfl | rfl | rfl | rfl | rfl | rfl
    all_goals decide
  rw [Nat.add_comm, Nat.add_mul_mod_self_right]
  exact Nat.mod_eq_of_lt h2
set_option maxRecDepth 100000 in
theorem primes_le : (primesL.all fun p => decide (p ≤ 311)) = true := by kernel_rfl
end Go.Proofs.YtkklmogcohlbhaaDoor
