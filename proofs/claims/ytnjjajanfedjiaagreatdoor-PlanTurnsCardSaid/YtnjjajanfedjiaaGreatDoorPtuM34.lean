/- The law's more: a flow with one job more. The walk of the law's more. slices.Equal at whole numbers. -/
import Derived.Test.YtnjjajanfedjiaaGreatDoorPtuM1
import Derived.Test.YtnjjajanfedjiaaGreatDoorPtuM23
import Derived.Test.YtnjjajanfedjiaaGreatDoorPtuM33
import Derived.Test.YtnjjajanfedjiaaGreatDoorPtuM22
set_option linter.unusedSimpArgs false
set_option linter.unusedVariables false
namespace Go.Proofs.YtnjjajanfedjiaaGreatDoor
open Go.RowKit Go.BigFrame
attribute [local go_sem] bs_size bs_extract bs_append bs_toList
def njC (o1 o2 : Nat) : List Value := [.int .i64 0, .int .i64 6, .slice (some ⟨o1, 0, none⟩) 1 1, .slice (some ⟨o2, 0, none⟩) 1 1, .slice none 0 0, .string ⟨#[]⟩, .string ⟨#[]⟩, .int .i64 0, .int .i64 0, .string ⟨#[]⟩, .string ⟨#[]⟩, .int .i64 0, .int .i64 0, .string ⟨#[]⟩, .int .i64 0]
def MrFin (y : World) (f : Fl) (n0 n1 : Bs) (ys : List Value) (G : Nat) (v0 v2 : Value) (w' : World) : Prop :=
 ∃ o1 o2 A c, Keeps [G] y w' ∧ y.heap.size ≤ o1 ∧ y.heap.size ≤ o2 ∧ Blk w' G 26 #[v0, .slice A (1 + f.jobs.length) c, v2] ∧ Blk w' o1 9 #[.string (bs n0)] ∧ Blk w' o2 9 #[.string (bs n1)] ∧ w'.ownsRow y.heap.size 45 15 (.slice A (1 + f.jobs.length) c) (1 + f.jobs.length) (njC o1 o2 ++ ys)
structure MrW (y : World) (f : Fl) (n0 n1 : Bs) (ys : List Value) (G : Nat) (v0 v2 : Value) (g : Nat × Nat × Nat × Option Addr × Nat) (L : Nat → Bool) (w' : World) : Prop where
 d8 : L 8 = true → L 1 = true ∧ L 7 = true
 d9 : L 9 = true → L 8 = true
 d12 : L 12 = true → L 9 = true
 d14 : L 14 = true → MrFin y f n0 n1 ys G v0 v2 w'
 all : L 14 = true → ∀ j, j < 14 → L j = true
 pre : L 14 = false → Keeps [] y w' ∧ (L 1 = true → y.heap.size ≤ g.1 ∧ Blk w' g.1 9 #[.string (bs n0)]) ∧ (L 7 = true → y.heap.size ≤ g.2.1 ∧ Blk w' g.2.1 9 #[.string (bs n1)]) ∧
  (L 9 = true → L 12 = false → w'.ownsRow y.heap.size 45 15 (.slice (some ⟨g.2.2.1, 0, none⟩) 1 1) 1 (njC g.1 g.2.1)) ∧
  (L 12 = true → w'.ownsRow y.heap.size 45 15 (.slice g.2.2.2.1 (1 + f.jobs.length) g.2.2.2.2) (1 + f.jobs.length) (njC g.1 g.2.1 ++ ys))
theorem MrW.far {y : World} {f : Fl} {n0 n1 : Bs} {ys : List Value} {G : Nat} {v0 v2 : Value} {g : Nat × Nat × Nat × Option Addr × Nat} {L : Nat → Bool} {w' : World} (h : MrW y f n0 n1 ys G v0 v2 g L w') {i : Nat} (h1 : i ≠ 1) (h7 : i ≠ 7) (h8 : i = 8 → L 1 = true ∧ L 7 = true) (h9 : i ≠ 9) (h12 : i ≠ 12) (h14 : i ≠ 14) : MrW y f n0 n1 ys G v0 v2 g (updL L i) w' := by
 have e : ∀ j, i ≠ j → updL L i j = L j := fun j hj => by unfold updL; rw [if_neg (Ne.symm hj)]
 refine ⟨fun h' => ?_, fun h' => ?_, fun h' => ?_, fun h' => ?_, fun h' j hj => ?_, fun h' => ?_⟩
 ·rw [e 1 h1, e 7 h7]
  by_cases hi : i = 8
  ·exact h8 hi
  ·rw [e 8 hi] at h'
   exact h.d8 h'
 ·rw [e 9 h9] at h'
  have := h.d9 h'
  unfold updL
  split
  ·rfl
  ·exact this
 ·rw [e 12 h12] at h'
  rw [e 9 h9]
  exact h.d12 h'
 ·rw [e 14 h14] at h'
  exact h.d14 h'
 ·rw [e 14 h14] at h'
  have := h.all h' j hj
  unfold updL
  split
  ·rfl
  ·exact this
 ·rw [e 14 h14] at h'
  rw [e 1 h1, e 7 h7, e 9 h9, e 12 h12]
  exact h.pre h'
theorem MrW.b1 {y : World} {f : Fl} {n0 n1 : Bs} {ys : List Value} {G : Nat} {v0 v2 : Value} {g : Nat × Nat × Nat × Option Addr × Nat} {L : Nat → Bool} {w' : World} (h : MrW y f n0 n1 ys G v0 v2 g L w') (hL : L 1 = false) (h14 : L 14 = false) : MrW y f n0 n1 ys G v0 v2 (w'.heap.size, g.2) (updL L 1) (w'.alloc (.cells #[.string (bs n0)] 9)) := by
 have e : ∀ j, 1 ≠ j → updL L 1 j = L j := fun j hj => by unfold updL; rw [if_neg (Ne.symm hj)]
 have no : ∀ j, (j = 8 ∨ j = 9 ∨ j = 12) → L j = true → False := fun j hj hj' => by
  have h8 : L 8 = true := by
   rcases hj with rfl | rfl | rfl
   ·exact hj'
   ·exact h.d9 hj'
   ·exact h.d9 (h.d12 hj')
  rw [(h.d8 h8).1] at hL
  cases hL
 obtain ⟨k, p1, p7, p9, p12⟩ := h.pre h14
 refine ⟨fun h' => ?_, fun h' => ?_, fun h' => ?_, fun h' => ?_, fun h' => ?_, fun _ => ⟨k.alloc _, fun _ => ⟨k.size, Blk.new _ _ _⟩, fun h' => ?_, fun h' => ?_, fun h' => ?_⟩⟩
 ·rw [e 8 (by decide)] at h'; exact (no 8 (by simp) h').elim
 ·rw [e 9 (by decide)] at h'; exact (no 9 (by simp) h').elim
 ·rw [e 12 (by decide)] at h'; exact (no 12 (by simp) h').elim
 ·rw [e 14 (by decide), h14] at h'; cases h'
 ·rw [e 14 (by decide), h14] at h'; cases h'
 ·rw [e 7 (by decide)] at h'
  exact ⟨(p7 h').1, (p7 h').2.alloc _⟩
 ·rw [e 9 (by decide)] at h'; exact (no 9 (by simp) h').elim
 ·rw [e 12 (by decide)] at h'; exact (no 12 (by simp) h').elim
theorem MrW.b7 {y : World} {f : Fl} {n0 n1 : Bs} {ys : List Value} {G : Nat} {v0 v2 : Value} {g : Nat × Nat × Nat × Option Addr × Nat} {L : Nat → Bool} {w' : World} (h : MrW y f n0 n1 ys G v0 v2 g L w') (hL : L 7 = false) (h14 : L 14 = false) : MrW y f n0 n1 ys G v0 v2 (g.1, w'.heap.size, g.2.2) (updL L 7) (w'.alloc (.cells #[.string (bs n1)] 9)) := by
 have e : ∀ j, 7 ≠ j → updL L 7 j = L j := fun j hj => by unfold updL; rw [if_neg (Ne.symm hj)]
 have no : ∀ j, (j = 8 ∨ j = 9 ∨ j = 12) → L j = true → False := fun j hj hj' => by
  have h8 : L 8 = true := by
   rcases hj with rfl | rfl | rfl
   ·exact hj'
   ·exact h.d9 hj'
   ·exact h.d9 (h.d12 hj')
  rw [(h.d8 h8).2] at hL
  cases hL
 obtain ⟨k, p1, p7, p9, p12⟩ := h.pre h14
 refine ⟨fun h' => ?_, fun h' => ?_, fun h' => ?_, fun h' => ?_, fun h' => ?_, fun _ => ⟨k.alloc _, fun h' => ?_, fun _ => ⟨k.size, Blk.new _ _ _⟩, fun h' => ?_, fun h' => ?_⟩⟩
 ·rw [e 8 (by decide)] at h'; exact (no 8 (by simp) h').elim
 ·rw [e 9 (by decide)] at h'; exact (no 9 (by simp) h').elim
 ·rw [e 12 (by decide)] at h'; exact (no 12 (by simp) h').elim
 ·rw [e 14 (by decide), h14] at h'; cases h'
 ·rw [e 14 (by decide), h14] at h'; cases h'
 ·rw [e 1 (by decide)] at h'
  exact ⟨(p1 h').1, (p1 h').2.alloc _⟩
 ·rw [e 9 (by decide)] at h'; exact (no 9 (by simp) h').elim
 ·rw [e 12 (by decide)] at h'; exact (no 12 (by simp) h').elim
theorem MrW.b9 {y : World} {f : Fl} {n0 n1 : Bs} {ys : List Value} {G : Nat} {v0 v2 : Value} {g : Nat × Nat × Nat × Option Addr × Nat} {L : Nat → Bool} {w' : World} (h : MrW y f n0 n1 ys G v0 v2 g L w') (hL : L 9 = false) (h8 : L 8 = true) (h14 : L 14 = false) : MrW y f n0 n1 ys G v0 v2 (g.1, g.2.1, w'.heap.size, g.2.2.2) (updL L 9) (w'.alloc (.cells (njC g.1 g.2.1).toArray 45)) := by
 have e : ∀ j, 9 ≠ j → updL L 9 j = L j := fun j hj => by unfold updL; rw [if_neg (Ne.symm hj)]
 have no : L 12 = true → False := fun hj' => by
  rw [h.d12 hj'] at hL
  cases hL
 obtain ⟨k, p1, p7, p9, p12⟩ := h.pre h14
 refine ⟨fun h' => ?_, fun h' => ?_, fun h' => ?_, fun h' => ?_, fun h' => ?_, fun _ => ⟨k.alloc _, fun h' => ?_, fun h' => ?_, fun _ _ => ?_, fun h' => ?_⟩⟩
 ·rw [e 1 (by decide), e 7 (by decide)]; exact h.d8 h8
 ·rw [e 8 (by decide)]; exact h8
 ·rw [e 12 (by decide)] at h'; exact (no h').elim
 ·rw [e 14 (by decide), h14] at h'; cases h'
 ·rw [e 14 (by decide), h14] at h'; cases h'
 ·exact ⟨(p1 (h.d8 h8).1).1, (p1 (h.d8 h8).1).2.alloc _⟩
 ·exact ⟨(p7 (h.d8 h8).2).1, (p7 (h.d8 h8).2).2.alloc _⟩
 ·exact ⟨rfl, .inr ⟨w'.heap.size, 1, (njC g.1 g.2.1).toArray, rfl, k.size, heap_alloc_new _ _, Nat.le_refl _, by decide, rfl, rfl⟩⟩
 ·rw [e 12 (by decide)] at h'; exact (no h').elim
end Go.Proofs.YtnjjajanfedjiaaGreatDoor
namespace Go.Proofs.YtnjjajanfedjiaaGreatDoor
open Go.RowKit Go.BigFrame
attribute [local go_sem] bs_size bs_extract bs_append bs_toList
end Go.Proofs.YtnjjajanfedjiaaGreatDoor
namespace Go.Proofs.YtnjjajanfedjiaaGreatDoor
open Go.RowKit
attribute [local go_sem] bs_size bs_extract bs_append bs_toList
theorem ints_at' (l : List Int) (n : Nat) (h : n < l.length) : (l.map (Value.int .i64))[n]? = some (.int .i64 l[n]) := by simp [h]
theorem equalI_any (l m : List Int) (A B : Option Addr) (c d : Nat) (w : World) (hA : Rd w [] 1 A l.length (l.map (Value.int .i64))) (hB : Rd w [] 1 B m.length (m.map (Value.int .i64))) (hl : l.length ≤ 4294967296) (hm : m.length ≤ 4294967296) :
  Calls Tryz.prog 48 #[.slice A l.length c, .slice B m.length d] w fun e w' => e = .returned (.bool (l == m)) ∧ Keeps [] w w' := by
 by_cases hne : l.length = m.length
 ·have hcast : ((l.length : Int) == (m.length : Int)) = true := by simp [hne]
  have HA := Lib.hid hA
  have HB := Lib.hid hB
  have HN := Lib.hid hne
  have hn1 : l.length ≤ m.length := by omega
  have hn2 : m.length ≤ l.length := by omega
  clear hA hB hne hcast
  go_enter Tryz.func48, Tryz.ntmps48
  go_wp2
  go_loopw [13] (fun i wr => ∃ n : Nat, n ≤ l.length ∧ i = .int .i64 n ∧ Hid (∀ j (hj : j < n) (hl : j < l.length) (hm : j < m.length), l[j] = m[j]) ∧ Keeps [] w wr) (fun i _ => l.length - (intOf i).toNat)
  case atStart => exact ⟨0, Nat.zero_le _, rfl, fun j hj => absurd hj (by omega), Keeps.refl _ _⟩
  case round =>
   obtain ⟨n, hn, rfl, hno, hk⟩ := hrel
   by_cases hlt : n < l.length
   ·have hlt2 : n < m.length := by omega
    obtain ⟨b, o, rfl, _, hb, hc⟩ := (HA.out.keep hk).open' (by omega) (by omega)
    obtain ⟨b', o', rfl, _, hb', hc'⟩ := (HB.out.keep hk).open' (by omega) (by omega)
    have d1 := hc n _ (ints_at' l n hlt)
    have d2 := hc' n _ (ints_at' m n hlt2)
    have hq1 : (n : Int) < (l.length : Int) := by omega
    have hq2 : (n : Int) < (m.length : Int) := by omega
    have hq0 : (0 : Int) ≤ (n : Int) := by omega
    clear hc hc'
    cases hq : l[n] == m[n] with
    | true =>
     have hq' : (l[n] == m[n]) = true := hq
     have HQ : Hid (l[n] = m[n]) := eq_of_beq hq
     clear hq
     go_wp2
     go_quiet (fail)
     go_wp2
     go_roundw
     case rel =>
      refine ⟨n + 1, by omega, by go_num, fun j hj hl hm => ?_, hk.drewN _⟩
      by_cases h : j < n
      ·exact hno j h hl hm
      ·obtain rfl : j = n := by omega
       exact HQ.out
     case measure => simp [intOf]; omega
    | false =>
     have hq' : (l[n] == m[n]) = false := hq
     have HQ : Hid (l[n] ≠ m[n]) := beq_eq_false_iff_ne.1 hq
     clear hq
     go_wp2
     go_quiet (fail)
     go_wp2
     go_ret
     refine ⟨?_, hk.drewN _⟩
     have : (l == m) = false := by
      rw [beq_eq_false_iff_ne]
      rintro rfl
      exact HQ.out rfl
     rw [this]; rfl
   ·have hfin : Hid ((l == m) = true) := by
     rw [Hid, beq_iff_eq]
     exact List.ext_getElem HN.out fun j h1 h2 => hno j (by omega) h1 h2
    go_wp2
    go_ret
    exact ⟨by rw [hfin.out]; rfl, hk⟩
 ·have hne' : ((l.length : Nat) == m.length) = false := by simpa using hne
  have hfin : Hid ((l == m) = false) := by
   rw [Hid, beq_eq_false_iff_ne]
   rintro rfl
   exact hne rfl
  clear hA hB
  go_enter Tryz.func48, Tryz.ntmps48
  go_wp2
  go_ret
  exact ⟨by rw [hfin.out]; rfl, Keeps.refl _ _⟩
end Go.Proofs.YtnjjajanfedjiaaGreatDoor
