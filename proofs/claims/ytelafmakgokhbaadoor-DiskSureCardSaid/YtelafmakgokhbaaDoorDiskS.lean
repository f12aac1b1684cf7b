/- Sync, Fuse, Crash. -/
import Derived.Test.YtelafmakgokhbaaDoorDisk
namespace Go.Proofs.YtelafmakgokhbaaDoor
open Go.RowKit
attribute [local go_sem] bs_size bs_extract bs_append bs_toList
attribute [local go_sem ↓] Go.wp_at_zero Go.wp_at_succ

/-- What is sure, with these written over it. -/
def put1 (l : List Bs) (p : Nat × Bs) : List Bs := l.set p.1 p.2
def puts (l : List Bs) (ws : List (Nat × Bs)) : List Bs := ws.foldl put1 l
def Dk.sync (D : Dk) : Nat × Dk := if D.fuse = 0 then (14, D) else (0, { D.burnt with sure := puts D.sure D.wait, wait := [] })
def Dk.fused (D : Dk) (n : Int) : Dk := { D with fuse := max n (-1) }

theorem Dsk.small {w : World} {L : List Nat} {g : Nat} {D : Dk} (h : Dsk w L g D) : D.sure.length ≤ 16384 := by
  obtain ⟨gs, v, _, _, _, _, _, _, _, h8, _⟩ := h; exact h8
theorem sync_spent (D : Dk) {w : World} {L : List Nat} {g : Nat} (h : Dsk w L g D) (hf : D.fuse = 0) :
    Calls Tryd.prog 13 #[.pointer (some ⟨g, 0, none⟩)] w fun e w' => e = .returned (errV 14) ∧ w = w' := by
  obtain ⟨gs, v, f0, f1, f2, fz⟩ := h.fields
  rw [hf] at f2
  have hb := Lib.hid (burn_zero g w f2)
  clear hf
  go_enter Tryd.func13, Tryd.ntmps13
  go_wp2_with (go_at_call 26; refine hb.out.mono ?_; rintro e w1 ⟨rfl, rfl⟩)
  go_ret
  exact ⟨rfl, rfl⟩

theorem puts_snoc (l : List Bs) (ws : List (Nat × Bs)) (k : Nat) (h : k < ws.length) : puts l (ws.take (k + 1)) = (puts l (ws.take k)).set ws[k].1 ws[k].2 := by
  unfold puts
  rw [List.take_succ_eq_append_getElem h, List.foldl_append]
  rfl
theorem puts_length (l : List Bs) (ws : List (Nat × Bs)) : (puts l ws).length = l.length := by
  unfold puts
  induction ws generalizing l with
  | nil => rfl
  | cons p ws ih => rw [List.foldl_cons, ih]; simp [put1]

/-- What holds at the head of Sync's loop, k writes being done. -/
def SyncRel (D : Dk) (L : List Nat) (g gs : Nat) (v1 : Value) (w1 : World) (k : Nat) (wr : World) : Prop :=
  k ≤ D.wait.length ∧ Keeps L w1 wr ∧ Blk wr g 50 #[.slice (some ⟨gs, 0, none⟩) D.sure.length D.sure.length, v1, .int .i64 D.burnt.fuse] ∧
    Blk wr gs 9 (strs (puts D.sure (D.wait.take k))).toArray ∧ wr.ownsRow 0 65 2 v1 D.wait.length (waitCells D.wait)


theorem sync_step {D : Dk} {L : List Nat} {g gs : Nat} {v1 : Value} {w1 wr : World} {k : Nat} {o : Obj} (h : SyncRel D L g gs v1 w1 k wr) (hk : k < D.wait.length) (hs : gs ∈ L) :
    SyncRel D L g gs v1 w1 (k + 1) ((wr.setCell ⟨gs, D.wait[k].1, none⟩ (.string (bs D.wait[k].2))).alloc o).drew := by
  obtain ⟨h1, h2, h3, h4, h5⟩ := h
  have hne : g ≠ gs := h3.ne h4 (by decide)
  have hown := own_ne h5 h4 (by decide)
  refine ⟨by omega, ((h2.setCell (.inl hs) _).alloc o).drew, ((h3.far hne _).alloc o).drew, ?_, (World.ownsRow.alloc (ownsRow_setCell_other h5 hown _) o).drew⟩
  refine (((h4.set _ _).alloc o).drew).congr ?_
  rw [strs_set, puts_snoc _ _ _ hk]

theorem sync_facts {D : Dk} {L : List Nat} {g gs : Nat} {A : Option Addr} {c : Nat} {w1 wr : World} {k : Nat} (h : SyncRel D L g gs (.slice A D.wait.length c) w1 k wr) (hk : k < D.wait.length) (hw : ∀ p ∈ D.wait, p.1 < D.sure.length) :
    ∃ gw, A = some ⟨gw, 0, none⟩ ∧ wr.cell? ⟨gw, k * 2, none⟩ = some (.int .i64 (D.wait[k].1 : Int)) ∧ wr.cell? ⟨gw, k * 2 + 1, none⟩ = some (.string (bs D.wait[k].2)) ∧ gw < wr.heap.size ∧
      wr.cell? ⟨g, 0, none⟩ = some (.slice (some ⟨gs, 0, none⟩) D.sure.length D.sure.length) ∧ g < wr.heap.size ∧ gs < wr.heap.size ∧
      (∃ old, wr.cell? ⟨gs, D.wait[k].1, none⟩ = some (.string old)) ∧ wr.frozen? ⟨gs, D.wait[k].1, none⟩ = false ∧ D.wait[k].1 < D.sure.length := by
  obtain ⟨h1, h2, h3, h4, h5⟩ := h
  obtain ⟨A', c', he, hf⟩ := own_form h5
  obtain ⟨rfl, _, rfl⟩ : A = A' ∧ D.wait.length = D.wait.length ∧ c = c' := by injection he with a b c; exact ⟨a, b, c⟩
  obtain ⟨gw, rfl, hl, hc⟩ := hf (by omega)
  have hm := hw _ (List.getElem_mem hk)
  obtain ⟨e1, e2⟩ := waitCells_at _ k hk
  refine ⟨gw, rfl, hc _ _ e1, hc _ _ e2, hl, (h3.cell 0).trans rfl, h3.lt, h4.lt, ?_, h4.frozen _, hm⟩
  rw [h4.cell, strs_at]
  have : D.wait[k].1 < (puts D.sure (D.wait.take k)).length := by rw [puts_length]; exact hm
  rw [List.getElem?_eq_getElem this]
  exact ⟨_, rfl⟩

theorem sync_close {D : Dk} {L : List Nat} {g gs : Nat} {v1 : Value} {w w1 wr : World} {k : Nat} (h : SyncRel D L g gs v1 w1 k wr) (hk : D.wait.length ≤ k) (c4 : g ∈ L) (c5 : gs ∈ L) (hk1 : Keeps L w w1) (c7 : ∀ x ∈ L, x < w1.heap.size)
    (c10 : -1 ≤ D.burnt.fuse) (c11 : D.burnt.fuse ≤ 9223372036854775807) (hn : D.sure.length ≤ 16384) :
    Dsk (wr.setCell ⟨g, 1, none⟩ (.slice none 0 0)) L g { D.burnt with sure := puts D.sure D.wait, wait := [] } ∧ Keeps L w (wr.setCell ⟨g, 1, none⟩ (.slice none 0 0)) := by
  obtain ⟨h1, h2, h3, h4, h5⟩ := h
  rw [List.take_of_length_le hk] at h4
  have k1 : Keeps L w1 (wr.setCell ⟨g, 1, none⟩ (.slice none 0 0)) := h2.setCell (.inl c4) _
  have hl := puts_length D.sure D.wait
  refine ⟨⟨gs, .slice none 0 0, (h3.set 1 _).congr ?_, h4.far (h4.ne h3 (by decide)) _, World.ownsRow_nil _ _ _ _, c4, c5, by simp [Value.ownBlock], fun x hx => Nat.lt_of_lt_of_le (c7 x hx) k1.size, ?_, by simp, c10, c11⟩, hk1.trans k1⟩
  · show _ = #[Value.slice _ (puts D.sure D.wait).length (puts D.sure D.wait).length, _, _]
    rw [hl]; rfl
  · show (puts D.sure D.wait).length ≤ _
    rw [hl]; exact hn
set_option maxRecDepth 100000 in
theorem sync_ok (D : Dk) {w : World} {L : List Nat} {g : Nat} (h : Dsk w L g D) (hf : D.fuse ≠ 0) (hwl : D.wait.length ≤ 4294967296) :
    Calls Tryd.prog 13 #[.pointer (some ⟨g, 0, none⟩)] w fun e w' => e = .returned (errV 0) ∧
      Dsk w' L g { D.burnt with sure := puts D.sure D.wait, wait := [] } ∧ Keeps L w w' := by
  have hb := (burn_any h)
  have hbt : decide (D.fuse ≠ 0) = true := by simpa using hf
  rw [hbt] at hb
  have HB := Lib.hid hb
  have HN : Hid (D.sure.length ≤ 16384) := h.small
  clear hb hbt hf
  go_enter Tryd.func13, Tryd.ntmps13
  go_wp2_with (go_at_call 26; refine HB.out.mono ?_; rintro e w1 ⟨rfl, hD1, hk1⟩; obtain ⟨gs, v1, c1, c2, c3, c4, c5, c6, c7, c8, c9, c10, c11⟩ := hD1; obtain ⟨A, cc, rfl, hc3⟩ := own_form c3; have f1 := c1.cell 1; have hlen : D.burnt.wait.length = D.wait.length := (by rw [burnt_wait]); rw [hlen] at f1)
  have hW : Hid (∀ p ∈ D.wait, p.1 < D.sure.length) := by rw [burnt_wait, burnt_sure] at c9; exact c9
  have hR : SyncRel D L g gs (.slice A D.wait.length cc) w1 0 w1 := by
    rw [hlen] at c1 c3
    rw [burnt_wait] at c3
    rw [burnt_sure] at c1 c2
    exact ⟨Nat.zero_le _, Keeps.refl _ _, c1, c2, c3⟩
  clear c1 c2 c3 c6 c8 c9 hc3 f1 hlen h
  go_loopw [14] (fun i wr => ∃ k : Nat, i = .int .i64 k ∧ SyncRel D L g gs (.slice A D.wait.length cc) w1 k wr) (fun i _ => D.wait.length - (intOf i).toNat)
  case atStart => exact ⟨0, rfl, hR⟩
  case round =>
    obtain ⟨k, rfl, hR⟩ := hrel
    by_cases hlt : k < D.wait.length
    · obtain ⟨gw, rfl, d1, d2, d3, d4, d5, d6, ⟨old, d7⟩, d8, d9⟩ := sync_facts hR hlt hW.out
      have HR := Lib.hid hR
      clear hR
      go_wp2
      go_region
      all_goals go_wp2
      all_goals go_roundw
      case rel => exact ⟨k + 1, by go_num, sync_step HR.out hlt c5⟩
      case measure => simp [intOf]; omega
    · have e1 := (hR.2.2.1.cell 1).trans rfl
      have e2 := hR.2.2.1.frozen 1
      have HR := Lib.hid hR
      have H7 := Lib.hid c7
      clear hR c7
      go_wp2
      go_ret
      exact ⟨rfl, sync_close HR.out (by omega) c4 c5 hk1 H7.out c10 c11 HN.out⟩

/-- Sync. -/
theorem sync_any (D : Dk) {w : World} {L : List Nat} {g : Nat} (h : Dsk w L g D) (hwl : D.wait.length ≤ 4294967296) :
    Calls Tryd.prog 13 #[.pointer (some ⟨g, 0, none⟩)] w fun e w' => e = .returned (errV D.sync.1) ∧ Dsk w' L g D.sync.2 ∧ Keeps L w w' := by
  by_cases hf : D.fuse = 0
  · have e : D.sync = (14, D) := by unfold Dk.sync; rw [if_pos hf]
    rw [e]
    refine (sync_spent D h hf).mono ?_
    rintro e w' ⟨rfl, rfl⟩
    exact ⟨rfl, h, Keeps.refl _ _⟩
  · have e : D.sync = (0, { D.burnt with sure := puts D.sure D.wait, wait := [] }) := by unfold Dk.sync; rw [if_neg hf]
    rw [e]
    exact sync_ok D h hf hwl

/-! ### Crash -/
/-- Of writes those that are kept. -/
def kept : List (Nat × Bs) → List Bool → List (Nat × Bs)
  | w :: ws, k :: ks => if k then w :: kept ws ks else kept ws ks
  | _, _ => []
def Dk.crash (D : Dk) (ks : List Bool) : Dk := { sure := puts D.sure (kept D.wait ks), wait := [], fuse := -1 }
theorem kept_nil (ws : List (Nat × Bs)) : kept ws [] = [] := by cases ws <;> rfl
theorem kept_snoc (ws : List (Nat × Bs)) (ks : List Bool) (k : Nat) (h : k < ws.length) : kept (ws.take (k + 1)) ks = kept (ws.take k) ks ++ (if ks[k]? = some true then [ws[k]] else []) := by
  induction ws generalizing ks k with
  | nil => simp at h
  | cons w ws ih =>
    cases ks with
    | nil => simp [kept_nil]
    | cons b ks =>
      cases k with
      | zero => cases b <;> simp [kept]
      | succ k =>
        have := ih ks k (by simpa using h)
        cases b <;> simp [kept, this]
def bools (l : List Bool) : List Value := l.map Value.bool
def ints (l : List Int) : List Value := l.map (Value.int .i64)
def CrashRel (D : Dk) (ks : List Bool) (L : List Nat) (g gs : Nat) (v1 : Value) (w1 : World) (k : Nat) (wr : World) : Prop :=
  k ≤ D.wait.length ∧ Keeps L w1 wr ∧ Blk wr g 50 #[.slice (some ⟨gs, 0, none⟩) D.sure.length D.sure.length, v1, .int .i64 D.fuse] ∧
    Blk wr gs 9 (strs (puts D.sure (kept (D.wait.take k) ks))).toArray ∧ wr.ownsRow 0 65 2 v1 D.wait.length (waitCells D.wait)
theorem crash_step {D : Dk} {ks : List Bool} {L : List Nat} {g gs : Nat} {v1 : Value} {w1 wr : World} {k : Nat} {o : Obj} (h : CrashRel D ks L g gs v1 w1 k wr) (hk : k < D.wait.length) (hs : gs ∈ L) (hb : ks[k]? = some true) :
    CrashRel D ks L g gs v1 w1 (k + 1) ((wr.setCell ⟨gs, D.wait[k].1, none⟩ (.string (bs D.wait[k].2))).alloc o).drew := by
  obtain ⟨h1, h2, h3, h4, h5⟩ := h
  have hne : g ≠ gs := h3.ne h4 (by decide)
  have hown := own_ne h5 h4 (by decide)
  refine ⟨by omega, ((h2.setCell (.inl hs) _).alloc o).drew, ((h3.far hne _).alloc o).drew, ?_, (World.ownsRow.alloc (ownsRow_setCell_other h5 hown _) o).drew⟩
  refine (((h4.set _ _).alloc o).drew).congr ?_
  rw [strs_set, kept_snoc _ _ _ hk, if_pos hb]
  simp [puts, put1]
theorem crash_skip {D : Dk} {ks : List Bool} {L : List Nat} {g gs : Nat} {v1 : Value} {w1 wr : World} {k : Nat} {o : Obj} (h : CrashRel D ks L g gs v1 w1 k wr) (hk : k < D.wait.length) (hb : ks[k]? ≠ some true) :
    CrashRel D ks L g gs v1 w1 (k + 1) (wr.alloc o) := by
  obtain ⟨h1, h2, h3, h4, h5⟩ := h
  refine ⟨by omega, h2.alloc o, h3.alloc o, (h4.alloc o).congr ?_, World.ownsRow.alloc h5 o⟩
  rw [kept_snoc _ _ _ hk, if_neg hb, List.append_nil]
theorem crash_facts {D : Dk} {ks : List Bool} {L : List Nat} {g gs : Nat} {A : Option Addr} {c : Nat} {w1 wr : World} {k : Nat} (h : CrashRel D ks L g gs (.slice A D.wait.length c) w1 k wr) (hk : k < D.wait.length) (hw : ∀ p ∈ D.wait, p.1 < D.sure.length) :
    ∃ gw, A = some ⟨gw, 0, none⟩ ∧ wr.cell? ⟨gw, k * 2, none⟩ = some (.int .i64 (D.wait[k].1 : Int)) ∧ wr.cell? ⟨gw, k * 2 + 1, none⟩ = some (.string (bs D.wait[k].2)) ∧ gw < wr.heap.size ∧
      wr.cell? ⟨g, 0, none⟩ = some (.slice (some ⟨gs, 0, none⟩) D.sure.length D.sure.length) ∧ g < wr.heap.size ∧ gs < wr.heap.size ∧
      (∃ old, wr.cell? ⟨gs, D.wait[k].1, none⟩ = some (.string old)) ∧ wr.frozen? ⟨gs, D.wait[k].1, none⟩ = false ∧ D.wait[k].1 < D.sure.length := by
  obtain ⟨h1, h2, h3, h4, h5⟩ := h
  obtain ⟨A', c', he, hf⟩ := own_form h5
  obtain ⟨rfl, _, rfl⟩ : A = A' ∧ D.wait.length = D.wait.length ∧ c = c' := by injection he with a b c; exact ⟨a, b, c⟩
  obtain ⟨gw, rfl, hl, hc⟩ := hf (by omega)
  have hm := hw _ (List.getElem_mem hk)
  obtain ⟨e1, e2⟩ := waitCells_at _ k hk
  refine ⟨gw, rfl, hc _ _ e1, hc _ _ e2, hl, (h3.cell 0).trans rfl, h3.lt, h4.lt, ?_, h4.frozen _, hm⟩
  rw [h4.cell, strs_at]
  have : D.wait[k].1 < (puts D.sure (kept (D.wait.take k) ks)).length := by rw [puts_length]; exact hm
  rw [List.getElem?_eq_getElem this]
  exact ⟨_, rfl⟩
theorem crash_close {D : Dk} {ks : List Bool} {L : List Nat} {g gs : Nat} {v1 : Value} {w1 wr : World} {k : Nat} (h : CrashRel D ks L g gs v1 w1 k wr) (hk : D.wait.length ≤ k) (c4 : g ∈ L) (c5 : gs ∈ L) (c7 : ∀ x ∈ L, x < w1.heap.size)
    (hn : D.sure.length ≤ 16384) :
    Dsk ((wr.setCell ⟨g, 1, none⟩ (.slice none 0 0)).setCell ⟨g, 2, none⟩ (.int .i64 (-1))) L g (D.crash ks) ∧ Keeps L w1 ((wr.setCell ⟨g, 1, none⟩ (.slice none 0 0)).setCell ⟨g, 2, none⟩ (.int .i64 (-1))) := by
  obtain ⟨h1, h2, h3, h4, h5⟩ := h
  rw [List.take_of_length_le hk] at h4
  have k1 : Keeps L w1 ((wr.setCell ⟨g, 1, none⟩ (.slice none 0 0)).setCell ⟨g, 2, none⟩ (.int .i64 (-1))) := (h2.setCell (.inl c4) _).setCell (.inl c4) _
  have hl := puts_length D.sure (kept D.wait ks)
  have hne : gs ≠ g := h4.ne h3 (by decide)
  refine ⟨⟨gs, .slice none 0 0, ((h3.set 1 _).set 2 _).congr ?_, (h4.far hne _).far hne _, World.ownsRow_nil _ _ _ _, c4, c5, by simp [Value.ownBlock], fun x hx => Nat.lt_of_lt_of_le (c7 x hx) k1.size, ?_, by simp [Dk.crash], by simp [Dk.crash], by simp [Dk.crash]⟩, k1⟩
  · show _ = #[Value.slice _ (puts D.sure (kept D.wait ks)).length (puts D.sure (kept D.wait ks)).length, _, _]
    rw [hl]; rfl
  · show (puts D.sure (kept D.wait ks)).length ≤ _
    rw [hl]; exact hn

set_option maxRecDepth 100000 in
theorem crash_any (D : Dk) {w : World} {L : List Nat} {g : Nat} (h : Dsk w L g D) (hwl : D.wait.length ≤ 4294967296) (K : Option Addr) (c : Nat) (ks : List Bool) (hks : Rd w L 1 K ks.length (bools ks)) (hkl : ks.length ≤ 9223372036854775807) :
    Calls Tryd.prog 15 #[.pointer (some ⟨g, 0, none⟩), .slice K ks.length c] w fun e w' => e = .returned (.tuple #[]) ∧
      Dsk w' L g (D.crash ks) ∧ Keeps L w w' := by
  have HN : Hid (D.sure.length ≤ 16384) := h.small
  obtain ⟨gs, v1, c1, c2, c3, c4, c5, c6, c7, c8, c9, c10, c11⟩ := h
  obtain ⟨A, cc, rfl, hc3⟩ := own_form c3
  have f1 := (c1.cell 1).trans rfl
  have hW : Hid (∀ p ∈ D.wait, p.1 < D.sure.length) := c9
  have hR : CrashRel D ks L g gs (.slice A D.wait.length cc) w 0 w := ⟨Nat.zero_le _, Keeps.refl _ _, c1, by simpa [kept, puts] using c2, c3⟩
  have H7 := Lib.hid c7
  have HK := Lib.hid hks
  clear c1 c2 c3 c6 c7 c8 c9 c10 c11 hc3 hks
  go_enter Tryd.func15, Tryd.ntmps15
  go_wp2
  go_loopw [11] (fun i wr => ∃ k : Nat, i = .int .i64 k ∧ CrashRel D ks L g gs (.slice A D.wait.length cc) w k wr) (fun i _ => D.wait.length - (intOf i).toNat)
  case atStart => exact ⟨0, rfl, hR⟩
  case round =>
    clear hR f1
    obtain ⟨k, rfl, hR⟩ := hrel
    by_cases hlt : k < D.wait.length
    · obtain ⟨gw, rfl, d1, d2, d3, d4, d5, d6, ⟨old, d7⟩, d8, d9⟩ := crash_facts hR hlt hW.out
      have HR := Lib.hid hR
      by_cases hkk : k < ks.length
      · obtain ⟨kb, ko, rfl, n1, n2, n3⟩ := ((HK.out).keep hR.2.1).open' (by omega) (by omega)
        have n4 := n3 k (.bool ks[k]) (by simp [bools, hkk])
        have hg : ks[k]? = some ks[k] := List.getElem?_eq_getElem hkk
        clear n3
        cases hb : ks[k] with
        | true =>
          rw [hb] at n4 hg
          have HG := Lib.hid hg
          clear hg hb hR
          go_wp2
          go_region
          all_goals go_wp2
          all_goals go_roundw
          case rel => exact ⟨k + 1, by go_num, crash_step HR.out hlt c5 HG.out⟩
          case measure => simp [intOf]; omega
        | false =>
          rw [hb] at n4 hg
          have HG := Lib.hid hg
          clear hg hb hR
          go_wp2
          all_goals go_roundw
          case rel => exact ⟨k + 1, by go_num, crash_skip HR.out hlt (by rw [HG.out]; simp)⟩
          case measure => simp [intOf]; omega
      · clear hR
        go_wp2
        all_goals go_roundw
        case rel => exact ⟨k + 1, by go_num, crash_skip HR.out hlt (by rw [List.getElem?_eq_none (by omega)]; simp)⟩
        case measure => simp [intOf]; omega
    · have e1 := (hR.2.2.1.cell 1).trans rfl
      have e2 := hR.2.2.1.frozen 1
      have e3 := (hR.2.2.1.cell 2).trans rfl
      have e4 := hR.2.2.1.frozen 2
      have HR := Lib.hid hR
      clear hR
      go_wp2
      go_end0
      exact ⟨rfl, crash_close HR.out (by omega) c4 c5 H7.out HN.out⟩
end Go.Proofs.YtelafmakgokhbaaDoor
