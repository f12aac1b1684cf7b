/- The disk of a law: a disk that the law itself made. 'lost': the fact that both disk laws of foremankeep open with. -/
import Derived.Test.YtelafmakgokhbaaDoorDiskW
import Derived.Test.YtelafmakgokhbaaDoorDiskS
import Derived.Test.YtelafmakgokhbaaDoorDiskR
import Derived.Test.YtelafmakgokhbaaDoorGen
namespace Go.Proofs.YtelafmakgokhbaaDoor
open Go.RowKit
attribute [local go_sem] bs_size bs_extract bs_append bs_toList errV_0 errV_2 errV_4 errV_14

/-- The disk D lies at g, its blocks are L, all made since w0; what w0 held is as it was. -/
def DA (w0 W : World) (L : List Nat) (g : Nat) (D : Dk) : Prop := Dsk W L g D ∧ Keeps [] w0 W ∧ ∀ x ∈ L, w0.heap.size ≤ x

section
variable {w0 W W' : World} {L : List Nat} {g : Nat} {D : Dk}
theorem Dsk.keep {L' : List Nat} (h : Dsk W L g D) (hk : Keeps L' W W') (hL : ∀ x ∈ L', x < W.heap.size → x ∉ L) : Dsk W' L g D := by
  obtain ⟨gs, v, h1, h2, h3, h4, h5, h6, h7, h8⟩ := h
  exact ⟨gs, v, h1.keep hk (fun hm => hL _ hm h1.lt h4), h2.keep hk (fun hm => hL _ hm h2.lt h5), own_keep h3 hk (fun b hb hm => hL b hm (h7 b (h6 b hb)) (h6 b hb)), h4, h5, h6, fun x hx => Nat.lt_of_lt_of_le (h7 x hx) hk.size, h8⟩
theorem Dsk.lt (h : Dsk W L g D) : ∀ x ∈ L, x < W.heap.size := by obtain ⟨gs, v, h1, h2, h3, h4, h5, h6, h7, h8⟩ := h; exact h7
theorem DA.quiet (h : DA w0 W L g D) (hk : Keeps [] W W') : DA w0 W' L g D := ⟨h.1.keep hk (by simp), h.2.1.trans hk, h.2.2⟩
theorem DA.new {n : Nat} (hk : Keeps [] w0 W) (h : Dsk W' [W.heap.size + 1, W.heap.size] (W.heap.size + 1) (Dk.new n)) (hk2 : Keeps [] W W') : DA w0 W' [W.heap.size + 1, W.heap.size] (W.heap.size + 1) (Dk.new n) := by
  refine ⟨h, hk.trans hk2, fun x hx => ?_⟩
  have := hk.size
  rcases List.mem_cons.1 hx with rfl | hx
  · omega
  · rw [List.mem_singleton.1 hx]; omega
theorem DA.turn {L' : List Nat} {D' : Dk} (h : DA w0 W L g D) (h' : Dsk W' L' g D') (hk : Keeps L W W') (hL : ∀ x ∈ L', x ∈ L ∨ W.heap.size ≤ x) : DA w0 W' L' g D' :=
  ⟨h', h.2.1.trans' hk (fun x hx hl => by have := h.2.2 x hx; omega), fun x hx => by
    rcases hL x hx with h1 | h1
    · exact h.2.2 x h1
    · have := h.2.1.size; omega⟩
end

theorem write_da {w0 W : World} {L : List Nat} {g : Nat} {D : Dk} (h : DA w0 W L g D) (a : Int) (s : Bs) (e : Nat) (D' : Dk) (hwl : D.wait.length ≤ 4294967296) (hs : D.write a s = (e, D')) :
    Calls Tryd.prog 12 #[.pointer (some ⟨g, 0, none⟩), .int .i64 a, .string (bs s)] W fun ev W' => ev = .returned (errV e) ∧ ∃ L', DA w0 W' L' g D' ∧ Keeps L W W' ∧ (∀ x ∈ L', x ∈ L ∨ W.heap.size ≤ x) := by
  refine (write_any D h.1 a s hwl).mono ?_
  rw [hs]
  rintro ev W' ⟨rfl, L', h1, h2, h3⟩
  exact ⟨rfl, L', h.turn h1 h2 h3, h2, h3⟩
theorem write_spent_da {w0 W : World} {L : List Nat} {g : Nat} {D : Dk} (h : DA w0 W L g D) (a : Nat) (s : Bs) (ha : a < D.sure.length) (hs : s.length ≤ 64) (hf : D.fuse = 0) :
    Calls Tryd.prog 12 #[.pointer (some ⟨g, 0, none⟩), .int .i64 a, .string (bs s)] W fun ev W' => ev = .returned (errV 14) ∧ W = W' := write_spent D h.1 a s ha hs hf
theorem sync_da {w0 W : World} {L : List Nat} {g : Nat} {D : Dk} (h : DA w0 W L g D) (e : Nat) (D' : Dk) (hwl : D.wait.length ≤ 4294967296) (hs : D.sync = (e, D')) :
    Calls Tryd.prog 13 #[.pointer (some ⟨g, 0, none⟩)] W fun ev W' => ev = .returned (errV e) ∧ DA w0 W' L g D' ∧ Keeps L W W' := by
  refine (sync_any D h.1 hwl).mono ?_
  rw [hs]
  rintro ev W' ⟨rfl, h1, h2⟩
  exact ⟨rfl, h.turn h1 h2 (fun x hx => .inl hx), h2⟩
theorem crash_da {w0 W : World} {L : List Nat} {g : Nat} {D : Dk} (h : DA w0 W L g D) (hwl : D.wait.length ≤ 4294967296) (K : Option Addr) (c n : Nat) (ks : List Bool) (hn : ks.length = n) (hks : Rd W L 1 K n (bools ks)) (hkl : ks.length ≤ 9223372036854775807) :
    Calls Tryd.prog 15 #[.pointer (some ⟨g, 0, none⟩), .slice K n c] W fun ev W' => ev = .returned (.tuple #[]) ∧ DA w0 W' L g (D.crash ks) ∧ Keeps L W W' := by
  subst hn
  refine (crash_any D h.1 hwl K c ks hks hkl).mono ?_
  rintro ev W' ⟨rfl, h1, h2⟩
  exact ⟨rfl, h.turn h1 h2 (fun x hx => .inl hx), h2⟩
theorem read_da {w0 W : World} {L : List Nat} {g : Nat} {D : Dk} (h : DA w0 W L g D) (a : Int) (hwl : D.wait.length ≤ 4294967296) (e : Nat) (s : Bs) (hs : D.read a = (e, s)) :
    Calls Tryd.prog 14 #[.pointer (some ⟨g, 0, none⟩), .int .i64 a] W fun ev W' => ev = .returned (.tuple #[.string (bs s), errV e]) ∧ DA w0 W' L g D ∧ Keeps [] W W' := by
  refine (read_any D h.1 a hwl).mono ?_
  rw [hs]
  rintro ev W' ⟨rfl, h2⟩
  exact ⟨rfl, h.quiet h2, h2⟩
theorem new_da {w0 W : World} (hk : Keeps [] w0 W) (n : Nat) (h1 : 8 ≤ n) (h2 : n ≤ 16384) :
    Calls Tryd.prog 7 #[.int .i64 (n : Int)] W fun ev W' => ev = .returned (.tuple #[.pointer (some ⟨W.heap.size + 1, 0, none⟩), .nilIface]) ∧ DA w0 W' [W.heap.size + 1, W.heap.size] (W.heap.size + 1) (Dk.new n) ∧ Keeps [] W W' := by
  refine (new_yes n W h1 h2).mono ?_
  rintro ev W' ⟨rfl, h3, h4⟩
  exact ⟨rfl, DA.new hk h3 h4, h4⟩

theorem padded_take (c : UInt8) : (padded [c]).take 2 = [c, 0] := by
  unfold padded zeros
  rfl
theorem padded_length (s : Bs) (h : s.length ≤ 64) : (padded s).length = 64 := by
  unfold padded
  rw [List.length_append, List.length_drop, zeros_length]; omega

/-- The disks that 'lost' goes through. -/
def lost1 : Dk := { sure := List.replicate 8 [], wait := [(3, padded [97])], fuse := -1 }
def lost2 : Dk := { sure := (List.replicate 8 []).set 3 (padded [97]), wait := [], fuse := -1 }
def lost3 : Dk := { lost2 with wait := [(3, padded [98])] }
def lost4 : Dk := { lost2 with wait := [(3, padded [98]), (4, padded [99])] }
def lost5 : Dk := { sure := ((List.replicate 8 []).set 3 (padded [97])).set 4 (padded [99]), wait := [], fuse := -1 }
theorem lost_1 : (Dk.new 8).write 3 [97] = (0, lost1) := rfl
theorem lost_2 : lost1.sync = (0, lost2) := rfl
theorem lost_3 : lost2.write 3 [98] = (0, lost3) := rfl
theorem lost_4 : lost3.write 4 [99] = (0, lost4) := rfl
theorem lost_5 : lost4.crash [false, true] = lost5 := rfl
theorem lost_6 : lost5.read 3 = (0, padded [97]) := by
  have h : padded [97] ≠ [] := by unfold padded; simp
  show (0, content (padded [97])) = _
  unfold content; rw [if_neg h]
theorem lost_7 : lost5.read 4 = (0, padded [99]) := by
  have h : padded [99] ≠ [] := by unfold padded; simp
  show (0, content (padded [99])) = _
  unfold content; rw [if_neg h]

set_option maxRecDepth 100000 in
set_option maxHeartbeats 2000000 in
theorem lost_any (w : World) : Calls Tryd.prog 6 #[] w fun e w' => e = .returned (.bool true) ∧ Keeps [] w w' := by
  go_enter Tryd.func6, Tryd.ntmps6
  go_wp2_with fail
  refine (new_da (Keeps.refl [] w) 8 (by omega) (by omega)).mono ?_
  rintro e W1 ⟨rfl, h1, k1⟩
  go_wp2_with fail
  refine (write_da h1 3 [97] 0 lost1 (by decide) lost_1).mono ?_
  rintro e W2 ⟨rfl, L2, h2, k2, _⟩
  go_wp2_with fail
  refine (sync_da h2 0 lost2 (by decide) lost_2).mono ?_
  rintro e W3 ⟨rfl, h3, k3⟩
  go_wp2_with fail
  refine (write_da h3 3 [98] 0 lost3 (by decide) lost_3).mono ?_
  rintro e W4 ⟨rfl, L4, h4, k4, _⟩
  go_wp2_with fail
  refine (write_da h4 4 [99] 0 lost4 (by decide) lost_4).mono ?_
  rintro e W5 ⟨rfl, L5, h5, k5, _⟩
  go_wp2_with fail
  have hks : Rd (W5.alloc (.cells #[.bool false, .bool true] 4)) L5 1 (some ⟨W5.heap.size, 0, none⟩) 2 (bools [false, true]) := by
    refine ⟨rfl, fun _ => ⟨_, rfl, fun hm => Nat.lt_irrefl _ (h5.1.lt _ hm), by simp, fun j u hu => ?_⟩⟩
    rw [add_at, Nat.zero_add, (Blk.new W5 _ _).cell]
    simpa [bools] using hu
  refine (crash_da (h5.quiet ((Keeps.refl _ _).alloc _)) (by decide) _ 2 2 [false, true] rfl hks (by decide)).mono ?_
  rw [lost_5]
  rintro e W6 ⟨rfl, h6, k6⟩
  go_wp2_with fail
  refine (read_da h6 3 (by decide) 0 _ lost_6).mono ?_
  rintro e W7 ⟨rfl, h7, k7⟩
  go_wp2_with fail
  refine (read_da h7 4 (by decide) 0 _ lost_7).mono ?_
  rintro e W8 ⟨rfl, h8, k8⟩
  have hp1 := padded_length [97] (by decide)
  have hp2 := padded_length [99] (by decide)
  have hp3 := padded_take 97
  have hp4 := padded_take 99
  go_wp2
  go_ret
  exact ⟨rfl, h8.2.1⟩
end Go.Proofs.YtelafmakgokhbaaDoor
