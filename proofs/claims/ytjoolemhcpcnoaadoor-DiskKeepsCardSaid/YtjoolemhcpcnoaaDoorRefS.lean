/- The document's disk: lose, Sync, Crash. -/
import Derived.Test.YtjoolemhcpcnoaaDoorRefW
namespace Go.Proofs.YtjoolemhcpcnoaaDoor
open Go.RowKit
attribute [local go_sem] bs_size bs_extract bs_append bs_toList zeros_length
attribute [local go_sem ↓] Go.wp_at_zero Go.wp_at_succ

theorem strs_set' (l : List Bs) (i : Nat) (s : Bs) : (strs l).set i (.string (bs s)) = strs (l.set i s) := by simp [strs]
theorem ats_at (ws : List (Nat × Bs)) (k : Nat) (h : k < ws.length) : (ats ws)[k]? = some (.int .i64 (ws[k].1 : Int)) := by simp [ats, h]
theorem whats_at (ws : List (Nat × Bs)) (k : Nat) (h : k < ws.length) : (whats ws)[k]? = some (.string (bs ws[k].2)) := by simp [whats, h]

/-- Of writes those whose number, counted from i, is kept. -/
def keptI (p : Nat → Bool) : List (Nat × Bs) → Nat → List (Nat × Bs)
  | [], _ => []
  | w :: ws, i => if p i then w :: keptI p ws (i + 1) else keptI p ws (i + 1)
theorem keptI_snoc (p : Nat → Bool) (ws : List (Nat × Bs)) (k i : Nat) (h : k < ws.length) : keptI p (ws.take (k + 1)) i = keptI p (ws.take k) i ++ (if p (i + k) then [ws[k]] else []) := by
  induction ws generalizing k i with
  | nil => simp at h
  | cons w ws ih =>
    cases k with
    | zero => cases hp : p i <;> simp [keptI, hp]
    | succ k =>
      have := ih k (i + 1) (by simpa using h)
      rw [show i + 1 + k = i + (k + 1) by omega] at this
      cases hp : p i <;> simp [keptI, hp, this]
theorem keptI_all (ws : List (Nat × Bs)) (i : Nat) : keptI (fun _ => true) ws i = ws := by
  induction ws generalizing i with
  | nil => rfl
  | cons w ws ih => simp [keptI, ih]
theorem keptI_bools (ks : List Bool) (ws : List (Nat × Bs)) (i : Nat) : keptI (fun j => decide (ks[j]? = some true)) ws i = kept ws (ks.drop i) := by
  induction ws generalizing i with
  | nil => cases ks.drop i <;> rfl
  | cons w ws ih =>
    by_cases hi : i < ks.length
    · rw [List.drop_eq_getElem_cons hi]
      have e : keptI (fun j => decide (ks[j]? = some true)) (w :: ws) i = if decide (ks[i]? = some true) = true then w :: keptI (fun j => decide (ks[j]? = some true)) ws (i + 1) else keptI (fun j => decide (ks[j]? = some true)) ws (i + 1) := rfl
      rw [e, ih, List.getElem?_eq_getElem hi]
      cases hb : ks[i] <;> simp [kept]
    · rw [List.drop_eq_nil_of_le (by omega)]
      have e : keptI (fun j => decide (ks[j]? = some true)) (w :: ws) i = if decide (ks[i]? = some true) = true then w :: keptI (fun j => decide (ks[j]? = some true)) ws (i + 1) else keptI (fun j => decide (ks[j]? = some true)) ws (i + 1) := rfl
      rw [e, ih, List.getElem?_eq_none (by omega), List.drop_eq_nil_of_le (by omega), kept_nil, kept_nil]
      simp

def KeepAt (k : Nat) (cap : Array Value) (p : Nat → Bool) (n : Nat) (L : List Nat) (w : World) : Prop :=
  ∀ i, i < n → ∀ W, Keeps L w W → Calls Tryd.prog k (#[.int .i64 (i : Int)] ++ cap) W fun e W' => e = .returned (.bool (p i)) ∧ Keeps [] W W'

/-- What holds at the head of lose's loop, k writes being looked at. -/
def LoseRel (D : Dk) (p : Nat → Bool) (L : List Nat) (g : Nat) (v0 v1 v2 : Value) (w : World) (k : Nat) (wr : World) : Prop :=
  k ≤ D.wait.length ∧ Keeps L w wr ∧ RD wr L g (puts D.sure (keptI p (D.wait.take k) 0)) D.wait.length (ats D.wait) D.wait.length (whats D.wait) D.fuse v0 v1 v2
theorem RD.quiet {w w' : World} {L K : List Nat} {g : Nat} {S : List Bs} {n1 n2 : Nat} {ns xs : List Value} {f : Int} {v0 v1 v2 : Value} (h : RD w L g S n1 ns n2 xs f v0 v1 v2) (hk : Keeps K w w') (hL : ∀ x ∈ L, x ∉ K) : RD w' L g S n1 ns n2 xs f v0 v1 v2 := by
  obtain ⟨h1, h2, h3, h4, h5, h6, h7, h8, h9, h10⟩ := h
  exact ⟨h1.keep hk (hL _ h6), own_keep h2 hk fun k e => hL _ (h7 k e), own_keep h3 hk fun k e => hL _ (h8 k e), own_keep h4 hk fun k e => hL _ (h9 k e), h5, h6, h7, h8, h9,
    fun x hx => Nat.lt_of_lt_of_le (h10 x hx) hk.size⟩
theorem RD.drewN {w : World} {L : List Nat} {g : Nat} {S : List Bs} {n1 n2 : Nat} {ns xs : List Value} {f : Int} {v0 v1 v2 : Value} (h : RD w L g S n1 ns n2 xs f v0 v1 v2) : RD w.drew L g S n1 ns n2 xs f v0 v1 v2 := h
/-- One of the texts that are sure is written anew. -/
theorem RD.store {w : World} {L : List Nat} {g : Nat} {S : List Bs} {n1 n2 : Nat} {ns xs : List Value} {f : Int} {v1 v2 : Value} {gs c0 : Nat} {n0 : Nat} (h : RD w L g S n1 ns n2 xs f (.slice (some ⟨gs, 0, none⟩) n0 c0) v1 v2) (hn : n0 = S.length) (a : Nat) (s : Bs) :
    RD (w.setCell ⟨gs, a, none⟩ (.string (bs s))) L g (S.set a s) n1 ns n2 xs f (.slice (some ⟨gs, 0, none⟩) n0 c0) v1 v2 ∧ Keeps L w (w.setCell ⟨gs, a, none⟩ (.string (bs s))) := by
  subst hn
  obtain ⟨h1, h2, h3, h4, h5, h6, h7, h8, h9, h10⟩ := h
  have hgs : gs ∈ L := h7 gs (by simp [Value.ownBlock])
  have hne : gs ≠ g := fun e => own_ne h2 h1 (by decide) (by rw [← e]; simp [Value.ownBlock])
  have n1 : v1.ownBlock ≠ some gs := by
    rcases own_apart h3 h2 (by decide) with e | e
    · rw [e]; simp
    · intro e'; exact e (by rw [e']; simp [Value.ownBlock])
  have n2 : v2.ownBlock ≠ some gs := h5 gs (by simp [Value.ownBlock])
  have hk : Keeps L w (w.setCell ⟨gs, a, none⟩ (.string (bs s))) := (Keeps.refl L w).setCell (.inl hgs) _
  have hst := (h2.stored a (.string (bs s))).1
  rw [strs_set'] at hst
  refine ⟨⟨h1.far (Ne.symm hne) _, ?_, ownsRow_setCell_other h3 n1 _, ownsRow_setCell_other h4 n2 _, h5, h6, h7, h8, h9, fun x hx => Nat.lt_of_lt_of_le (h10 x hx) hk.size⟩, hk⟩
  rw [List.length_set]; exact hst

theorem lose_facts {D : Dk} {p : Nat → Bool} {L : List Nat} {g : Nat} {v0 v1 v2 : Value} {w wr : World} {k : Nat} (h : LoseRel D p L g v0 v1 v2 w k wr) (hk : k < D.wait.length) (hw : ∀ q ∈ D.wait, q.1 < D.sure.length) :
    ∃ gs c0 g1 c1 g2 c2, v0 = .slice (some ⟨gs, 0, none⟩) D.sure.length c0 ∧ v1 = .slice (some ⟨g1, 0, none⟩) D.wait.length c1 ∧ v2 = .slice (some ⟨g2, 0, none⟩) D.wait.length c2 ∧
      (wr.cell? ⟨g, 0, none⟩ = some v0 ∧ wr.cell? ⟨g, 2, none⟩ = some v2 ∧ g < wr.heap.size) ∧ (wr.cell? ⟨g1, k, none⟩ = some (.int .i64 (D.wait[k].1 : Int)) ∧ g1 < wr.heap.size) ∧ (wr.cell? ⟨g2, k, none⟩ = some (.string (bs D.wait[k].2)) ∧ g2 < wr.heap.size) ∧
      ((∃ old, wr.cell? ⟨gs, D.wait[k].1, none⟩ = some (.string old)) ∧ wr.frozen? ⟨gs, D.wait[k].1, none⟩ = false ∧ gs < wr.heap.size) ∧ D.wait[k].1 < D.sure.length := by
  obtain ⟨h0, h0', h1, h2, h3, h4, h5, h6, h7, h8, h9, h10⟩ := h
  have hm := hw _ (List.getElem_mem hk)
  have hl : (puts D.sure (keptI p (D.wait.take k) 0)).length = D.sure.length := puts_length _ _
  rw [hl] at h2
  obtain ⟨A0, c0, rfl, e0⟩ := own_form h2
  obtain ⟨A1, c1, rfl, e1⟩ := own_form h3
  obtain ⟨A2, c2, rfl, e2⟩ := own_form h4
  obtain ⟨gs, rfl, l0, d0⟩ := e0 (by omega)
  obtain ⟨g1, rfl, l1, d1⟩ := e1 (by omega)
  obtain ⟨g2, rfl, l2, d2⟩ := e2 (by omega)
  refine ⟨gs, c0, g1, c1, g2, c2, rfl, rfl, rfl, ⟨by rw [h1.cell]; rfl, by rw [h1.cell]; rfl, h1.lt⟩, ⟨d1 _ _ (ats_at _ _ hk), l1⟩, ⟨d2 _ _ (whats_at _ _ hk), l2⟩, ⟨⟨bs ((puts D.sure (keptI p (D.wait.take k) 0))[D.wait[k].1]'(by rw [hl]; exact hm)), d0 _ _ ?_⟩, h2.frozenAt _, l0⟩, hm⟩
  have hm' : D.wait[k].1 < (puts D.sure (keptI p (D.wait.take k) 0)).length := by rw [hl]; exact hm
  simp [strs, hm']

theorem lose_step {D : Dk} {p : Nat → Bool} {L : List Nat} {g gs c0 : Nat} {v1 v2 : Value} {w W2 : World} {k : Nat} (h : Keeps L w W2 ∧ RD W2 L g (puts D.sure (keptI p (D.wait.take k) 0)) D.wait.length (ats D.wait) D.wait.length (whats D.wait) D.fuse (.slice (some ⟨gs, 0, none⟩) D.sure.length c0) v1 v2)
    (hk : k < D.wait.length) (hp : p k = true) :
    LoseRel D p L g (.slice (some ⟨gs, 0, none⟩) D.sure.length c0) v1 v2 w (k + 1) (W2.setCell ⟨gs, D.wait[k].1, none⟩ (.string (bs D.wait[k].2))).drew := by
  obtain ⟨hr, hq⟩ := h.2.store (by rw [puts_length]) D.wait[k].1 D.wait[k].2
  refine ⟨hk, (h.1.trans hq).drew, RD.drewN ?_⟩
  rw [keptI_snoc _ _ _ _ hk, Nat.zero_add, if_pos hp]
  have e : puts D.sure (keptI p (D.wait.take k) 0 ++ [D.wait[k]]) = (puts D.sure (keptI p (D.wait.take k) 0)).set D.wait[k].1 D.wait[k].2 := by
    unfold puts; rw [List.foldl_append]; rfl
  rw [e]; exact hr
theorem lose_skip {D : Dk} {p : Nat → Bool} {L : List Nat} {g : Nat} {v0 v1 v2 : Value} {w W2 : World} {k : Nat} (h : Keeps L w W2 ∧ RD W2 L g (puts D.sure (keptI p (D.wait.take k) 0)) D.wait.length (ats D.wait) D.wait.length (whats D.wait) D.fuse v0 v1 v2)
    (hk : k < D.wait.length) (hp : p k = false) : LoseRel D p L g v0 v1 v2 w (k + 1) W2 := by
  refine ⟨hk, h.1, ?_⟩
  rw [keptI_snoc _ _ _ _ hk, Nat.zero_add, if_neg (by simp [hp]), List.append_nil]
  exact h.2
theorem lose_close {D : Dk} {p : Nat → Bool} {L : List Nat} {g : Nat} {v0 v1 v2 : Value} {w wr : World} {k : Nat} (h : LoseRel D p L g v0 v1 v2 w k wr) (hk : D.wait.length ≤ k) (hB : D.sure.length ≤ 16384 ∧ -1 ≤ D.fuse ∧ D.fuse ≤ 9223372036854775807) :
    RDsk ((wr.setCell ⟨g, 1, none⟩ (.slice none 0 0)).setCell ⟨g, 2, none⟩ (.slice none 0 0)) L g { D with sure := puts D.sure (keptI p D.wait 0), wait := [] } ∧
      Keeps L w ((wr.setCell ⟨g, 1, none⟩ (.slice none 0 0)).setCell ⟨g, 2, none⟩ (.slice none 0 0)) := by
  obtain ⟨-, h0, h1, h2, h3, h4, h5, h6, h7, h8, h9, h10⟩ := h
  rw [List.take_of_length_le hk] at h2
  have hk2 : Keeps L w ((wr.setCell ⟨g, 1, none⟩ (.slice none 0 0)).setCell ⟨g, 2, none⟩ (.slice none 0 0)) := (h0.setCell (.inl h6) _).setCell (.inl h6) _
  have hn := own_ne h2 h1 (by decide)
  refine ⟨⟨v0, .slice none 0 0, .slice none 0 0, ((h1.set 1 _).set 2 _).congr rfl, ownsRow_setCell_other (ownsRow_setCell_other h2 hn _) hn _, World.ownsRow_nil _ _ _ _, World.ownsRow_nil _ _ _ _, by simp [Value.ownBlock], h6, h7, by simp [Value.ownBlock], by simp [Value.ownBlock], ?_, ?_, by simp, hB.2⟩, hk2⟩
  · intro x hx
    have hs : ((wr.setCell ⟨g, 1, none⟩ (.slice none 0 0)).setCell ⟨g, 2, none⟩ (.slice none 0 0)).heap.size = wr.heap.size := by simp [World.setCell]
    rw [hs]; exact h10 x hx
  · show (puts D.sure _).length ≤ _
    rw [puts_length]; exact hB.1

set_option maxRecDepth 100000 in
set_option maxHeartbeats 2000000 in
theorem lose_any (D : Dk) {w : World} {L : List Nat} {g : Nat} (h : RDsk w L g D) (kf : Nat) (cap : Array Value) (he : ∀ args w, (callFunc kf args).run Tryd.prog w = .ok (.enter kf args) w) (p : Nat → Bool) (hf : KeepAt kf cap p D.wait.length L w) (hwl : D.wait.length ≤ 4294967296) :
    Calls Tryd.prog 67 #[.pointer (some ⟨g, 0, none⟩), .func (.func kf) #[] cap] w fun e w' => e = .returned (.tuple #[]) ∧
      RDsk w' L g { D with sure := puts D.sure (keptI p D.wait 0), wait := [] } ∧ Keeps L w w' := by
  obtain ⟨v0, v1, v2, c1, c2, c3, c4, c5, c6, c7, c8, c9, c10, c11, c12, c13, c14⟩ := h
  have f1 : w.cell? ⟨g, 1, none⟩ = some v1 := by rw [c1.cell]; rfl
  have hW := Lib.hid c12
  have hR := Lib.hid (show LoseRel D p L g v0 v1 v2 w 0 w from ⟨Nat.zero_le _, Keeps.refl _ _, c1, by simpa [keptI, puts] using c2, c3, c4, c5, c6, c7, c8, c9, c10⟩)
  have HB := Lib.hid (show D.sure.length ≤ 16384 ∧ -1 ≤ D.fuse ∧ D.fuse ≤ 9223372036854775807 from ⟨c11, c13, c14⟩)
  have HF := Lib.hid hf
  obtain ⟨A1, cc, rfl, -⟩ := own_form c3
  clear c1 c2 c3 c4 c5 c6 c7 c8 c9 c10 c11 c12 c13 c14 hf
  go_enter Tryd.func67, Tryd.ntmps67
  go_wp2
  go_loopw [11] (fun i wr => ∃ k : Nat, i = .int .i64 k ∧ LoseRel D p L g v0 (.slice A1 D.wait.length cc) v2 w k wr) (fun i _ => D.wait.length - (intOf i).toNat)
  case atStart => exact ⟨0, rfl, hR.out⟩
  case round =>
    clear hR f1
    obtain ⟨k, rfl, hR⟩ := hrel
    by_cases hlt : k < D.wait.length
    · obtain ⟨gs, c0, g1, c1', g2, c2, rfl, e1, rfl, ⟨a1, a2, a3⟩, ⟨a4, a5⟩, ⟨a6, a7⟩, ⟨⟨old, a8⟩, a9, a10⟩, a11⟩ := lose_facts hR hlt hW.out
      obtain ⟨rfl, -, rfl⟩ : A1 = some ⟨g1, 0, none⟩ ∧ D.wait.length = D.wait.length ∧ cc = c1' := by injection e1 with a b c; exact ⟨a, b, c⟩
      have HH := Lib.hid (HF.out k hlt wr hR.2.1)
      have HR := Lib.hid hR
      clear hR
      cases hp : p k with
      | true =>
        rw [hp] at HH
        have HP := Lib.hid hp
        clear hp
        go_wp2_with fail
        refine HH.out.mono ?_
        rintro e W2 ⟨rfl, k2⟩
        have b1 := k2.cell_of (p := ⟨g, 0, none⟩) a1 (by simp)
        have b2 := k2.cell_of (p := ⟨g, 2, none⟩) a2 (by simp)
        have b3 := Nat.lt_of_lt_of_le a3 k2.size
        have b6 := k2.cell_of (p := ⟨g2, k, none⟩) a6 (by simp)
        have b7 := Nat.lt_of_lt_of_le a7 k2.size
        have b8 := k2.cell_of (p := ⟨gs, D.wait[k].1, none⟩) a8 (by simp)
        have b9 := (k2.frozen (p := ⟨gs, D.wait[k].1, none⟩) a10 (by simp)).trans a9
        have b10 := Nat.lt_of_lt_of_le a10 k2.size
        have HR2 := Lib.hid (show Keeps L w W2 ∧ RD W2 L g _ _ _ _ _ _ _ _ _ from ⟨HR.out.2.1.trans (k2.of_nil), HR.out.2.2.quiet k2 (by simp)⟩)
        clear a1 a2 a3 a4 a5 a6 a7 a8 a9 a10 k2
        go_wp2
        go_region
        all_goals go_wp2
        all_goals go_roundw
        case rel => exact ⟨k + 1, by go_num, lose_step HR2.out hlt HP.out⟩
        case measure => simp [intOf]; omega
      | false =>
        rw [hp] at HH
        have HP := Lib.hid hp
        clear hp
        go_wp2_with fail
        refine HH.out.mono ?_
        rintro e W2 ⟨rfl, k2⟩
        have HR2 := Lib.hid (show Keeps L w W2 ∧ RD W2 L g _ _ _ _ _ _ _ _ _ from ⟨HR.out.2.1.trans (k2.of_nil), HR.out.2.2.quiet k2 (by simp)⟩)
        clear a1 a2 a3 a4 a5 a6 a7 a8 a9 a10 k2
        go_wp2
        go_roundw
        case rel => exact ⟨k + 1, by go_num, lose_skip HR2.out hlt HP.out⟩
        case measure => simp [intOf]; omega
    · have e1 : wr.cell? ⟨g, 1, none⟩ = some (.slice A1 D.wait.length cc) := by rw [hR.2.2.1.cell]; rfl
      have e2 := hR.2.2.1.frozen 1
      have e3 : wr.cell? ⟨g, 2, none⟩ = some v2 := by rw [hR.2.2.1.cell]; rfl
      have e4 := hR.2.2.1.frozen 2
      have HR := Lib.hid hR
      clear hR
      go_wp2
      go_end0
      exact ⟨rfl, lose_close HR.out (by omega) HB.out⟩

/-! ### Sync -/
theorem sync1_any (i : Int) (w : World) :
    Calls Tryd.prog 68 #[.int .i64 i] w fun e w' => e = .returned (.bool true) ∧ Keeps [] w w' := by
  go_enter Tryd.func68, Tryd.ntmps68
  go_wp2
  go_ret
  exact ⟨rfl, Keeps.refl _ _⟩
theorem rsync_any (D : Dk) {w : World} {L : List Nat} {g : Nat} (h : RDsk w L g D) (hwl : D.wait.length ≤ 4294967296) :
    Calls Tryd.prog 36 #[.pointer (some ⟨g, 0, none⟩)] w fun e w' => e = .returned (.int .i64 (D.sync.1 : Nat)) ∧ RDsk w' L g D.sync.2 ∧ Keeps L w w' := by
  have hb := spent_any h
  by_cases hf : D.fuse = 0
  · have e : D.sync = (14, D) := by unfold Dk.sync; rw [if_pos hf]
    rw [e]
    rw [show decide (D.fuse = 0) = true from decide_eq_true hf, show D.burnt = D by unfold Dk.burnt; rw [if_neg (by omega)]] at hb
    have HB := Lib.hid hb
    clear hb hf h
    go_enter Tryd.func36, Tryd.ntmps36
    go_wp2_with fail
    refine HB.out.mono ?_
    rintro e w1 ⟨rfl, h1, k1⟩
    go_wp2
    go_ret
    exact ⟨rfl, h1, k1⟩
  · have e : D.sync = (0, { D.burnt with sure := puts D.sure D.wait, wait := [] }) := by unfold Dk.sync; rw [if_neg hf]
    rw [e]
    rw [show decide (D.fuse = 0) = false from decide_eq_false hf] at hb
    have HB := Lib.hid hb
    clear hb hf h
    go_enter Tryd.func36, Tryd.ntmps36
    go_wp2_with fail
    refine HB.out.mono ?_
    rintro e w1 ⟨rfl, h1, k1⟩
    go_wp2_with fail
    refine (lose_any D.burnt h1 68 #[] (enters_of Tryd.func68 (by kernel_rfl) rfl) (fun _ => true) (fun i _ W _ => sync1_any i W) (by rw [burnt_wait]; exact hwl)).mono ?_
    rintro e w2 ⟨rfl, h2, k2⟩
    rw [keptI_all, burnt_wait, burnt_sure] at h2
    go_wp2
    go_ret
    exact ⟨rfl, h2, k1.trans k2⟩

/-! ### Crash -/
theorem crash1_any (ks : List Bool) (K : Option Addr) (c B : Nat) (i : Nat) (w : World) (hB : w.cell? ⟨B, 0, none⟩ = some (.slice K ks.length c)) (hK : Rd w [] 1 K ks.length (bools ks)) :
    Calls Tryd.prog 69 #[.int .i64 (i : Int), .pointer (some ⟨B, 0, none⟩)] w fun e w' => e = .returned (.bool (decide (ks[i]? = some true))) ∧ Keeps [] w w' := by
  by_cases hi : i < ks.length
  · obtain ⟨b, o, rfl, _, hb, hc⟩ := hK.open' (by omega) (by omega)
    have d1 := hc i (.bool ks[i]) (by simp [bools, hi])
    have hd : decide (ks[i]? = some true) = ks[i] := by rw [List.getElem?_eq_getElem hi]; cases ks[i] <;> rfl
    rw [hd]
    clear hc hd hK
    go_enter Tryd.func69, Tryd.ntmps69
    go_wp2
    go_ret
    exact ⟨rfl, Keeps.refl _ _⟩
  · have hd : decide (ks[i]? = some true) = false := by rw [List.getElem?_eq_none (by omega)]; rfl
    rw [hd]
    clear hd hK
    go_enter Tryd.func69, Tryd.ntmps69
    go_wp2
    go_ret
    exact ⟨rfl, Keeps.refl _ _⟩
theorem rcrash_any (D : Dk) {w : World} {L : List Nat} {g : Nat} (h : RDsk w L g D) (hwl : D.wait.length ≤ 4294967296) (K : Option Addr) (c : Nat) (ks : List Bool) (hks : Rd w L 1 K ks.length (bools ks)) :
    Calls Tryd.prog 38 #[.pointer (some ⟨g, 0, none⟩), .slice K ks.length c] w fun e w' => e = .returned (.tuple #[]) ∧ RDsk w' L g (D.crash ks) ∧ Keeps L w w' := by
  have k0 : Keeps [] w (w.alloc (.cells #[.slice K ks.length c] 24)) := (Keeps.refl _ _).alloc _
  have h0 := h.keep k0 (by simp)
  have hlt := h.lt
  have b0 : (w.alloc (.cells #[.slice K ks.length c] 24)).cell? ⟨w.heap.size, 0, none⟩ = some (.slice K ks.length c) := ((Blk.new w 24 #[.slice K ks.length c]).cell 0).trans rfl
  have hL : w.heap.size ∉ L := fun hm => Nat.lt_irrefl _ (hlt _ hm)
  have hks' := hks.keep (k0.of_nil (L := L))
  have hbl : w.heap.size < (w.alloc (.cells #[.slice K ks.length c] 24)).heap.size := by rw [alloc_size]; exact Nat.lt_succ_self _
  have HL := Lib.hid (lose_any D h0 69 #[.pointer (some ⟨w.heap.size, 0, none⟩)] (enters_of Tryd.func69 (by kernel_rfl) rfl) (fun i => decide (ks[i]? = some true))
    (fun i _ W hk => crash1_any ks K c _ i W (hk.cell_of (p := ⟨w.heap.size, 0, none⟩) b0 hL) ((hks'.keep hk).move (by simp))) hwl)
  have K0 := Lib.hid k0
  clear k0 h0 hlt b0 hL hks' hbl h hks
  go_enter Tryd.func38, Tryd.ntmps38
  go_wp2_with fail
  refine HL.out.mono ?_
  rintro e w1 ⟨rfl, h1, k1⟩
  rw [keptI_bools, List.drop_zero] at h1
  have e3 : w1.cell? ⟨g, 3, none⟩ = some (.int .i64 D.fuse) := by obtain ⟨A0, c0, A1, c1, A2, c2, f0, f1, f2, f3, fz⟩ := h1.fields; exact f3
  have e4 : w1.frozen? ⟨g, 3, none⟩ = false := by obtain ⟨A0, c0, A1, c1, A2, c2, f0, f1, f2, f3, fz⟩ := h1.fields; exact fz 3
  have HF := Lib.hid (h1.fuse (-1) (by omega) (by omega))
  have K1 := Lib.hid k1
  clear h1 k1
  go_wp2
  go_end0
  exact ⟨rfl, HF.out.1, (K0.out.of_nil.trans K1.out).trans HF.out.2⟩
end Go.Proofs.YtjoolemhcpcnoaaDoor
