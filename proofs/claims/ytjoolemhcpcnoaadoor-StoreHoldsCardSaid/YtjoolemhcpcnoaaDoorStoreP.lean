/- store: the plain law: what was put is read back, in order. No walk. -/
import Derived.Test.YtjoolemhcpcnoaaDoorStoreF
namespace Go.Proofs.YtjoolemhcpcnoaaDoor
open Go.RowKit
theorem secs_pos (n : Nat) : 1 ≤ secs n := by unfold secs; omega
theorem drop_min {α : Type} (l : List α) (a b : Nat) (h : a ≤ b) : l.take b = l.take a ++ (l.drop a).take (b - a) := by
  rw [← List.take_append_drop a (l.take b), List.take_take, List.drop_take, Nat.min_eq_left h]
/-- Records lie one behind the other from a sector on. -/
def Holds (rd : Nat → Bs) (N : Nat) : Nat → List Bs → Prop
  | _, [] => True
  | a, s :: l => a + secs s.length ≤ N ∧ s.length ≤ 8000 ∧ rd a = padded (headL s) ∧ (∀ i, i + 1 < secs s.length → rd (a + 1 + i) = padded (chunk s i)) ∧ Holds rd N (a + secs s.length) l
def room (l : List Bs) : Nat := (l.map fun s => secs s.length).sum
theorem room_append (l m : List Bs) : room (l ++ m) = room l + room m := by simp [room]
theorem room_one (s : Bs) : room [s] = secs s.length := by simp [room]
theorem Holds.congr {rd rd' : Nat → Bs} {N : Nat} : ∀ {l : List Bs} {a : Nat}, Holds rd N a l → (∀ k, a ≤ k → k < a + room l → rd' k = rd k) → Holds rd' N a l
  | [], _, _, _ => trivial
  | s :: l, a, h, hc => by
    obtain ⟨h1, h2, h3, h4, h5⟩ := h
    have hs := secs_pos s.length
    have hr : room (s :: l) = secs s.length + room l := by simp [room]
    refine ⟨h1, h2, (hc a (Nat.le_refl _) (by omega)).trans h3, fun i hi => (hc _ (by omega) (by omega)).trans (h4 i hi), h5.congr fun k h6 h7 => hc k (by omega) (by omega)⟩
theorem Holds.snoc {rd : Nat → Bs} {N : Nat} {s : Bs} : ∀ {l : List Bs} {a : Nat}, Holds rd N a l → Holds rd N (a + room l) [s] → Holds rd N a (l ++ [s])
  | [], _, _, h2 => by simpa [room] using h2
  | t :: l, a, h, h2 => by
    obtain ⟨h1, h3, h4, h5, h6⟩ := h
    have hr : room (t :: l) = secs t.length + room l := by simp [room]
    refine ⟨h1, h3, h4, h5, h6.snoc ?_⟩
    rw [Nat.add_assoc, ← hr]
    exact h2
theorem padded_prefix (s : Bs) (n : Nat) (h : n ≤ s.length) : (padded s).take n = s.take n := by
  unfold padded
  rw [List.take_append_of_le_length h]
theorem headL_two (s : Bs) : (headL s).take 2 = [114, 99] := rfl
theorem lenR_head (s : Bs) (h : s.length ≤ 8000) : lenR (padded (headL s)) = s.length := by
  have e2 : (padded (headL s)).getD 2 0 = UInt8.ofNat s.length := rfl
  have e3 : (padded (headL s)).getD 3 0 = UInt8.ofNat (s.length / 256) := rfl
  unfold lenR
  rw [e2, e3]
  have h1 : (UInt8.ofNat s.length).toNat = s.length % 256 := UInt8.toNat_ofNat'
  have h2 : (UInt8.ofNat (s.length / 256)).toNat = s.length / 256 % 256 := UInt8.toNat_ofNat'
  rw [h1, h2]
  omega
theorem chunk_length (s : Bs) (k : Nat) : (chunk s k).length = min 64 (s.length - 64 * k) := by unfold chunk; rw [List.length_take, List.length_drop]
theorem padded_full (s : Bs) (h : s.length = 64) : padded s = s := by
  unfold padded
  rw [h, List.drop_of_length_le (by rw [zeros_length]; exact Nat.le_refl _), List.append_nil]
theorem padded_chunk (s : Bs) (k : Nat) (h : 64 * k < s.length) : (padded (chunk s k)).take (s.length - 64 * k) = chunk s k := by
  have hl := chunk_length s k
  by_cases h2 : 64 ≤ s.length - 64 * k
  · rw [padded_full _ (by omega), List.take_of_length_le (by omega)]
  · rw [padded_prefix _ _ (by omega), List.take_of_length_le (by omega)]
theorem take_chunk (s : Bs) (k : Nat) : s.take (64 * (k + 1)) = s.take (64 * k) ++ chunk s k := by
  rw [drop_min s (64 * k) (64 * (k + 1)) (by omega), show 64 * (k + 1) - 64 * k = 64 by omega]
  rfl
/-- Sectors that bear a text, cut to its length, are that text. -/
theorem join_take {D : Dk} {a : Nat} {s : Bs} (k : Nat) (hk : 64 * k ≤ s.length + 63) (h : ∀ i, i < k → D.at (a + 1 + i) = padded (chunk s i)) : (joinR D a k).take s.length = s.take (64 * k) ∧ (joinR D a k).length = 64 * k := by
  induction k with
  | zero => exact ⟨by simp [joinR], rfl⟩
  | succ k ih =>
    obtain ⟨i1, i2⟩ := ih (by omega) fun i hi => h i (by omega)
    rw [joinR_succ, h k (by omega)]
    have hpl : (padded (chunk s k)).length = 64 := padded_length _ (by rw [chunk_length]; omega)
    have hj : joinR D a k = s.take (64 * k) := by rw [← i1, List.take_of_length_le (by omega)]
    refine ⟨?_, by rw [List.length_append, i2, hpl]; omega⟩
    rw [take_chunk, hj, List.take_append, List.take_take, Nat.min_eq_right (by omega), List.length_take, Nat.min_eq_left (by omega), padded_chunk s k (by omega)]
theorem oneF_holds {D : Dk} {a : Nat} {s : Bs} {l : List Bs} (h : Holds D.at D.sure.length a (s :: l)) : oneF D a = (s, true) := by
  obtain ⟨h1, h2, h3, h4, _⟩ := h
  have hl : lenR (D.at a) = s.length := by rw [h3, lenR_head s h2]
  have hb : ¬ bad D a := by
    unfold bad
    rw [hl]
    rintro (h | h | h)
    · exact h (by rw [h3, padded_prefix _ 2 (by rw [headL_length]; omega), headL_two])
    · omega
    · omega
  unfold oneF
  rw [if_neg hb, hl]
  have hj := (join_take (D := D) (a := a) (s := s) (secs s.length - 1) (by unfold secs; omega) fun i hi => h4 i (by omega)).1
  rw [hj, List.take_of_length_le (by unfold secs; omega)]
  simp only [Prod.mk.injEq, true_and, beq_iff_eq]
  rw [h3, padded_prefix _ 36 (by rw [headL_length]; exact Nat.le_refl _), List.take_of_length_le (by rw [headL_length]; exact Nat.le_refl _)]
/-- All that lies there is read. -/
theorem openP_holds {D : Dk} : ∀ {l : List Bs} {S : Sr} {n : Nat}, Holds D.at D.sure.length S.at_ l → openP D (l.length + n) S = openP D n (l.foldl kept1 S)
  | [], S, n, _ => by simp
  | s :: l, S, n, h => by
    have h1 := oneF_holds h
    obtain ⟨h2, h3, h4, h5, h6⟩ := h
    have hs := secs_pos s.length
    rw [show (s :: l).length + n = (l.length + n) + 1 by simp; omega, openP_more D _ S (by omega) (by rw [h1]), h1]
    rw [← kept1_at S s] at h6
    exact openP_holds h6
theorem fold_at : ∀ (l : List Bs) (S : Sr), (l.foldl kept1 S).at_ = S.at_ + room l
  | [], S => by simp [room]
  | s :: l, S => by
    rw [List.foldl_cons, fold_at l, kept1_at]
    simp [room]; omega
theorem fold_len : ∀ (l : List Bs) (S : Sr), (l.foldl kept1 S).keys.length ≤ S.keys.length + l.length
  | [], S => by simp
  | s :: l, S => by
    have := fold_len l (kept1 S s)
    have h2 := kept1_len S s
    rw [List.foldl_cons, List.length_cons]
    omega
/-- What is known of a store's keys. -/
def Sr.Fit (S : Sr) : Prop := (∀ k, (S.m k).isSome = true ↔ k ∈ S.keys) ∧ ∀ k s, S.m k = some s → shaL s = k ∧ s.length ≤ 8000
theorem fit_new : Sr.new.Fit := ⟨fun k => by simp [Sr.new], fun k s h => by simp [Sr.new] at h⟩
theorem kept1_cases (S : Sr) (s : Bs) : ((S.m (shaL s)).isSome = true ∧ (kept1 S s).keys = S.keys ∧ (kept1 S s).m = S.m) ∨ ((S.m (shaL s)).isSome = false ∧ (kept1 S s).keys = S.keys ++ [shaL s] ∧ (kept1 S s).m = fun x => if x = shaL s then some s else S.m x) := by
  cases h : (S.m (shaL s)).isSome with
  | true => left; rw [kept1_in h]; exact ⟨rfl, rfl, rfl⟩
  | false => right; rw [kept1_out h]; exact ⟨rfl, rfl, rfl⟩
theorem fit_kept {S : Sr} (h : S.Fit) {s : Bs} (hs : s.length ≤ 8000) : (kept1 S s).Fit := by
  rcases kept1_cases S s with ⟨h1, h2, h3⟩ | ⟨h1, h2, h3⟩
  · unfold Sr.Fit; rw [h2, h3]; exact h
  · unfold Sr.Fit
    rw [h2, h3]
    refine ⟨fun k => ?_, fun k u hu => ?_⟩
    · by_cases e : k = shaL s
      · simp [e]
      · simp only [if_neg e, List.mem_append, List.mem_singleton, e, or_false]; exact h.1 k
    · by_cases e : k = shaL s
      · simp only [if_pos e] at hu
        cases hu
        exact ⟨e.symm, hs⟩
      · simp only [if_neg e] at hu
        exact h.2 k u hu
theorem kept1_prefix (S : Sr) (s : Bs) : S.keys <+: (kept1 S s).keys := by
  rcases kept1_cases S s with ⟨h1, h2, h3⟩ | ⟨h1, h2, h3⟩
  · rw [h2]; exact List.prefix_refl _
  · rw [h2]; exact List.prefix_append _ _
theorem openP_prefix (D : Dk) : ∀ (n : Nat) (S : Sr), S.keys <+: (openP D n S).keys
  | 0, S => List.prefix_refl _
  | n + 1, S => by
    unfold openP
    split
    · exact (kept1_prefix S _).trans (openP_prefix D n _)
    · exact List.prefix_refl _
theorem openP_fit (D : Dk) : ∀ (n : Nat) (S : Sr), S.Fit → (openP D n S).Fit
  | 0, S, h => h
  | n + 1, S, h => by
    unfold openP
    split
    · rename_i hc
      exact openP_fit D n _ (fit_kept h (oneF_le hc.2).1)
    · exact h
theorem openP_len (D : Dk) : ∀ (n : Nat) (S : Sr), (openP D n S).keys.length ≤ S.keys.length + n
  | 0, S => Nat.le_refl _
  | n + 1, S => by
    unfold openP
    split
    · have h1 := openP_len D n (kept1 S (oneF D S.at_).1)
      have h2 := kept1_len S (oneF D S.at_).1
      omega
    · omega
end Go.Proofs.YtjoolemhcpcnoaaDoor
