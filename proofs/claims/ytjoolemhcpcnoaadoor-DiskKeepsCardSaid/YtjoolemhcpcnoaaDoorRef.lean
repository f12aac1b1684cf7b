/- The document's disk: what it is in memory; Fuse, spent, Repeat of a zero byte, New. -/
import Derived.Test.YtjoolemhcpcnoaaDoorDiskS
import Derived.Test.YtjoolemhcpcnoaaDoorDiskW
import Derived.Test.YtjoolemhcpcnoaaDoorPlace
import Derived.Test.YtjoolemhcpcnoaaDoorShRep
namespace Go.Proofs.YtjoolemhcpcnoaaDoor
open Go.RowKit
attribute [local go_sem] bs_size bs_extract bs_append bs_toList zeros_length
attribute [local go_sem ↓] Go.wp_at_zero Go.wp_at_succ

def ats (ws : List (Nat × Bs)) : List Value := ws.map fun p => .int .i64 (p.1 : Int)
def whats (ws : List (Nat × Bs)) : List Value := ws.map fun p => .string (bs p.2)
theorem ats_snoc (ws : List (Nat × Bs)) (a : Nat) (s : Bs) : ats (ws ++ [(a, s)]) = ats ws ++ [.int .i64 (a : Int)] := by simp [ats]
theorem whats_snoc (ws : List (Nat × Bs)) (a : Nat) (s : Bs) : whats (ws ++ [(a, s)]) = whats ws ++ [.string (bs s)] := by simp [whats]
theorem strs_snoc1 (l : List Bs) (s : Bs) : strs (l ++ [s]) = strs l ++ [.string (bs s)] := by simp [strs]

/-- The document's disk lies at block g in the state D; all its blocks are in L. -/
def RDsk (w : World) (L : List Nat) (g : Nat) (D : Dk) : Prop :=
  ∃ v0 v1 v2, Blk w g 61 #[v0, v1, v2, .int .i64 D.fuse] ∧
    w.ownsRow 0 9 1 v0 D.sure.length (strs D.sure) ∧ w.ownsRow 0 3 1 v1 D.wait.length (ats D.wait) ∧ w.ownsRow 0 9 1 v2 D.wait.length (whats D.wait) ∧
    (∀ k, v0.ownBlock = some k → v2.ownBlock ≠ some k) ∧
    g ∈ L ∧ (∀ k, v0.ownBlock = some k → k ∈ L) ∧ (∀ k, v1.ownBlock = some k → k ∈ L) ∧ (∀ k, v2.ownBlock = some k → k ∈ L) ∧ (∀ x ∈ L, x < w.heap.size) ∧
    D.sure.length ≤ 16384 ∧ (∀ p ∈ D.wait, p.1 < D.sure.length) ∧ -1 ≤ D.fuse ∧ D.fuse ≤ 9223372036854775807

/-- Quiet work outside L leaves it as it is. -/
theorem RDsk.keep {w w' : World} {L K : List Nat} {g : Nat} {D : Dk} (h : RDsk w L g D) (hk : Keeps K w w') (hL : ∀ x ∈ L, x ∉ K) : RDsk w' L g D := by
  obtain ⟨v0, v1, v2, h1, h2, h3, h4, h5, h6, h7, h8, h9, h10, h11⟩ := h
  exact ⟨v0, v1, v2, h1.keep hk (hL _ h6), own_keep h2 hk fun k e => hL _ (h7 k e), own_keep h3 hk fun k e => hL _ (h8 k e), own_keep h4 hk fun k e => hL _ (h9 k e), h5, h6, h7, h8, h9,
    fun x hx => Nat.lt_of_lt_of_le (h10 x hx) hk.size, h11⟩
theorem RDsk.lt {w : World} {L : List Nat} {g : Nat} {D : Dk} (h : RDsk w L g D) : ∀ x ∈ L, x < w.heap.size := by
  obtain ⟨v0, v1, v2, h1, h2, h3, h4, h5, h6, h7, h8, h9, h10, h11⟩ := h; exact h10
theorem RDsk.fields {w : World} {L : List Nat} {g : Nat} {D : Dk} (h : RDsk w L g D) : ∃ A0 c0 A1 c1 A2 c2, w.cell? ⟨g, 0, none⟩ = some (.slice A0 D.sure.length c0) ∧
    w.cell? ⟨g, 1, none⟩ = some (.slice A1 D.wait.length c1) ∧ w.cell? ⟨g, 2, none⟩ = some (.slice A2 D.wait.length c2) ∧ w.cell? ⟨g, 3, none⟩ = some (.int .i64 D.fuse) ∧ (∀ i, w.frozen? ⟨g, i, none⟩ = false) := by
  obtain ⟨v0, v1, v2, h1, h2, h3, h4, h5, _⟩ := h
  obtain ⟨A0, c0, rfl, _⟩ := own_form h2
  obtain ⟨A1, c1, rfl, _⟩ := own_form h3
  obtain ⟨A2, c2, rfl, _⟩ := own_form h4
  exact ⟨A0, c0, A1, c1, A2, c2, by rw [h1.cell]; rfl, by rw [h1.cell]; rfl, by rw [h1.cell]; rfl, by rw [h1.cell]; rfl, fun i => h1.frozen i⟩
/-- The fuse is set anew. -/
theorem RDsk.fuse {w : World} {L : List Nat} {g : Nat} {D : Dk} (h : RDsk w L g D) (f : Int) (h1 : -1 ≤ f) (h2 : f ≤ 9223372036854775807) :
    RDsk (w.setCell ⟨g, 3, none⟩ (.int .i64 f)) L g { D with fuse := f } ∧ Keeps L w (w.setCell ⟨g, 3, none⟩ (.int .i64 f)) := by
  obtain ⟨v0, v1, v2, c1, c2, c3, c4, c5, c6, c7, c8, c9, c10, c11, c12, c13, c14⟩ := h
  have hk : Keeps L w (w.setCell ⟨g, 3, none⟩ (.int .i64 f)) := (Keeps.refl L w).setCell (.inl c6) _
  exact ⟨⟨v0, v1, v2, (c1.set 3 _).congr rfl, ownsRow_setCell_other c2 (own_ne c2 c1 (by decide)) _, ownsRow_setCell_other c3 (own_ne c3 c1 (by decide)) _, ownsRow_setCell_other c4 (own_ne c4 c1 (by decide)) _, c5, c6, c7, c8, c9,
    fun x hx => Nat.lt_of_lt_of_le (c10 x hx) hk.size, c11, c12, h1, h2⟩, hk⟩

theorem RDsk.fuse2 {w : World} {L : List Nat} {g : Nat} {D : Dk} (h : RDsk w L g D) (u : Value) (f : Int) (h1 : -1 ≤ f) (h2 : f ≤ 9223372036854775807) :
    RDsk ((w.setCell ⟨g, 3, none⟩ u).setCell ⟨g, 3, none⟩ (.int .i64 f)) L g { D with fuse := f } ∧ Keeps L w ((w.setCell ⟨g, 3, none⟩ u).setCell ⟨g, 3, none⟩ (.int .i64 f)) := by
  obtain ⟨v0, v1, v2, c1, c2, c3, c4, c5, c6, c7, c8, c9, c10, c11, c12, c13, c14⟩ := h
  have hk : Keeps L w ((w.setCell ⟨g, 3, none⟩ u).setCell ⟨g, 3, none⟩ (.int .i64 f)) := ((Keeps.refl L w).setCell (.inl c6) _).setCell (.inl c6) _
  have n2 := own_ne c2 c1 (by decide)
  have n3 := own_ne c3 c1 (by decide)
  have n4 := own_ne c4 c1 (by decide)
  exact ⟨⟨v0, v1, v2, ((c1.set 3 _).set 3 _).congr rfl, ownsRow_setCell_other (ownsRow_setCell_other c2 n2 _) n2 _, ownsRow_setCell_other (ownsRow_setCell_other c3 n3 _) n3 _, ownsRow_setCell_other (ownsRow_setCell_other c4 n4 _) n4 _, c5, c6, c7, c8, c9,
    fun x hx => Nat.lt_of_lt_of_le (c10 x hx) hk.size, c11, c12, h1, h2⟩, hk⟩

/-! ### spent -/
theorem spent_any {w : World} {L : List Nat} {g : Nat} {D : Dk} (h : RDsk w L g D) :
    Calls Tryd.prog 66 #[.pointer (some ⟨g, 0, none⟩)] w fun e w' => e = .returned (.bool (decide (D.fuse = 0))) ∧ RDsk w' L g D.burnt ∧ Keeps L w w' := by
  obtain ⟨A0, c0, A1, c1, A2, c2, f0, f1, f2, f3, fz⟩ := h.fields
  have fz3 := fz 3
  have hb : -1 ≤ D.fuse ∧ D.fuse ≤ 9223372036854775807 := by
    obtain ⟨v0, v1, v2, c1, c2, c3, c4, c5, c6, c7, c8, c9, c10, c11, c12, c13, c14⟩ := h; exact ⟨c13, c14⟩
  obtain ⟨hb1, hb2⟩ := hb
  have H := Lib.hid h
  clear f0 f1 f2 fz h
  rcases Int.lt_trichotomy D.fuse 0 with hc | hc | hc
  · have hb : D.burnt = D := by unfold Dk.burnt; rw [if_neg (by omega)]
    have hd : decide (D.fuse = 0) = false := decide_eq_false (by omega)
    have hz : (D.fuse == 0) = false := by rw [beq_eq_false_iff_ne]; omega
    rw [hb, hd]
    clear hb hd
    go_enter Tryd.func66, Tryd.ntmps66
    go_wp2
    go_ret
    exact ⟨rfl, H.out, Keeps.refl _ _⟩
  · have hb : D.burnt = D := by unfold Dk.burnt; rw [if_neg (by omega)]
    have hd : decide (D.fuse = 0) = true := decide_eq_true hc
    rw [hb, hd]
    rw [hc] at f3
    clear hb hd hc hb1 hb2
    go_enter Tryd.func66, Tryd.ntmps66
    go_wp2
    go_ret
    exact ⟨rfl, H.out, Keeps.refl _ _⟩
  · have hb : D.burnt = { D with fuse := D.fuse - 1 } := by unfold Dk.burnt; rw [if_pos hc]
    have hd : decide (D.fuse = 0) = false := decide_eq_false (by omega)
    rw [hb, hd]
    have HB := Lib.hid (H.out.fuse (D.fuse - 1) (by omega) (by omega))
    clear hb hd
    go_enter Tryd.func66, Tryd.ntmps66
    go_wp2
    go_ret
    exact ⟨rfl, HB.out.1, HB.out.2⟩

/-! ### Fuse -/
theorem rfuse_any (D : Dk) {w : World} {L : List Nat} {g : Nat} (h : RDsk w L g D) (n : Int) (hn : n ≤ 9223372036854775807) :
    Calls Tryd.prog 37 #[.pointer (some ⟨g, 0, none⟩), .int .i64 n] w fun e w' => e = .returned (.tuple #[]) ∧ RDsk w' L g (D.fused n) ∧ Keeps L w w' := by
  obtain ⟨A0, c0, A1, c1, A2, c2, f0, f1, f2, f3, fz⟩ := h.fields
  have fz3 := fz 3
  have HG := Lib.hid (show g ∈ L by obtain ⟨v0, v1, v2, c1, c2, c3, c4, c5, c6, c7⟩ := h; exact c6)
  have H := Lib.hid h
  clear f0 f1 f2 fz h
  by_cases hc : n < 0
  · have hm : D.fused n = { D with fuse := -1 } := by unfold Dk.fused; rw [show max n (-1) = -1 by omega]
    rw [hm]
    have HB := Lib.hid (H.out.fuse2 (.int .i64 n) (-1) (by omega) (by omega))
    clear hm
    go_enter Tryd.func37, Tryd.ntmps37
    go_wp2
    go_end0
    exact ⟨rfl, HB.out⟩
  · have hm : D.fused n = { D with fuse := n } := by unfold Dk.fused; rw [show max n (-1) = n by omega]
    rw [hm]
    have HB := Lib.hid (H.out.fuse n (by omega) (by omega))
    clear hm
    go_enter Tryd.func37, Tryd.ntmps37
    go_wp2
    go_end0
    exact ⟨rfl, HB.out⟩

/-! ### zero bytes -/
theorem zeros_drop (n : Nat) : zeros.drop n = List.replicate (64 - n) 0 := by unfold zeros; rw [List.drop_replicate]
theorem rep0 (c : Nat) (hc : c ≤ 64) (w : World) :
    Calls Tryd.prog 45 #[.string ⟨#[0]⟩, .int .i64 (c : Int)] w fun e w' => e = .returned (.string (bs (List.replicate c 0))) ∧ Keeps [] w w' := by
  refine (Tryd.strings_Repeat ⟨#[0]⟩ c w (by omega) (by show 1 * c ≤ _; omega)).mono ?_
  rintro e w' ⟨rfl, hb⟩
  refine ⟨?_, Keeps.of_below hb⟩
  have := Lib.repeatL_replicate 0 1 c
  rw [Nat.mul_one] at this
  show Ending.returned (.string ⟨(Lib.repeatL [0] c).toArray⟩) = _
  rw [show ([0] : List UInt8) = List.replicate 1 0 from rfl, this]
  rfl
theorem zeros_eq : zeros = List.replicate 64 0 := by unfold zeros; rfl
theorem rep64 (w : World) :
    Calls Tryd.prog 45 #[.string ⟨#[0]⟩, .int .i64 64] w fun e w' => e = .returned (.string (bs zeros)) ∧ Keeps [] w w' := by
  rw [zeros_eq]; exact rep0 64 (by omega) w
end Go.Proofs.YtjoolemhcpcnoaaDoor
