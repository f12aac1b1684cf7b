/- The law's more: a flow with one job more. The walk of the law's more. slices.Equal at whole numbers. -/
import Derived.Test.YtnjjajanfedjiaaGreatDoorPmoM1
import Derived.Test.YtnjjajanfedjiaaGreatDoorPmoM23
import Derived.Test.YtnjjajanfedjiaaGreatDoorPmoM33
import Derived.Test.YtnjjajanfedjiaaGreatDoorPmoM22
set_option linter.unusedSimpArgs false
set_option linter.unusedVariables false
namespace Go.Proofs.YtnjjajanfedjiaaGreatDoor
open Go.RowKit Go.BigFrame
attribute [local go_sem] bs_size bs_extract bs_append bs_toList
def takenB (f : Fl) (n : Bs) : Bool := insB f n || f.jobs.any fun j => j.outs.contains n
def moreOk (f : Fl) (n : Bs) : Bool := !f.ins.isEmpty && decide (f.jobs.length < 16) && nameB n
theorem taken_iff (f : Fl) (n : Bs) : takenB f n = decide (n ∈ allN f) := by
 rw [Bool.eq_iff_iff, decide_eq_true_iff]
 unfold takenB allN
 rw [Bool.or_eq_true, List.mem_append]
 refine or_congr insB_iff ?_
 rw [List.any_eq_true]
 constructor
 ·rintro ⟨j, hj, h⟩
  exact List.mem_flatMap.2 ⟨j, hj, by simpa using h⟩
 ·intro h
  obtain ⟨j, hj, h⟩ := List.mem_flatMap.1 h
  exact ⟨j, hj, by simpa using h⟩
def njC (o1 o2 : Nat) : List Value := [.int .i64 0, .int .i64 6, .slice (some ⟨o1, 0, none⟩) 1 1, .slice (some ⟨o2, 0, none⟩) 1 1, .slice none 0 0, .string ⟨#[]⟩, .string ⟨#[]⟩, .int .i64 0, .int .i64 0, .string ⟨#[]⟩, .string ⟨#[]⟩, .int .i64 0, .int .i64 0, .string ⟨#[]⟩, .int .i64 0]
def MrFin (y : World) (f : Fl) (n0 n1 : Bs) (ys : List Value) (G : Nat) (v0 v2 : Value) (w' : World) : Prop :=
 ∃ o1 o2 A c, Keeps [G] y w' ∧ y.heap.size ≤ o1 ∧ y.heap.size ≤ o2 ∧ Blk w' G 26 #[v0, .slice A (1 + f.jobs.length) c, v2] ∧ Blk w' o1 9 #[.string (bs n0)] ∧ Blk w' o2 9 #[.string (bs n1)] ∧ w'.ownsRow y.heap.size 45 15 (.slice A (1 + f.jobs.length) c) (1 + f.jobs.length) (njC o1 o2 ++ ys)
structure MrW (y : World) (f : Fl) (n0 n1 : Bs) (ys : List Value) (G : Nat) (v0 v2 : Value) (g : Nat × Nat × Nat × Option Addr × Nat) (L : Nat → Bool) (w' : World) : Prop where
 d8 : L 8 = true → L 1 = true ∧ L 7 = true
 d9 : L 9 = true → L 8 = true
 d12 : L 12 = true → L 9 = true
 d14 : L 14 = true → MrFin y f n0 n1 ys G v0 v2 w'
 all : L 14 = true → ∀ j, j < 14 → L j = true
 pre : L 14 = false → Keeps [] y w' ∧ (L 1 = true → y.heap.size ≤ g.1 ∧ Blk w' g.1 9 #[.string (bs n0)]) ∧ (L 7 = true → y.heap.size ≤ g.2.1 ∧ Blk w' g.2.1 9 #[.string (bs n1)]) ∧
  (L 9 = true → L 12 = false → w'.ownsRow y.heap.size 45 15 (.slice (some ⟨g.2.2.1, 0, none⟩) 1 1) 1 (njC g.1 g.2.1)) ∧
  (L 12 = true → w'.ownsRow y.heap.size 45 15 (.slice g.2.2.2.1 (1 + f.jobs.length) g.2.2.2.2) (1 + f.jobs.length) (njC g.1 g.2.1 ++ ys))
theorem MrW.far {y : World} {f : Fl} {n0 n1 : Bs} {ys : List Value} {G : Nat} {v0 v2 : Value} {g : Nat × Nat × Nat × Option Addr × Nat} {L : Nat → Bool} {w' : World} (h : MrW y f n0 n1 ys G v0 v2 g L w') {i : Nat} (h1 : i ≠ 1) (h7 : i ≠ 7) (h8 : i = 8 → L 1 = true ∧ L 7 = true) (h9 : i ≠ 9) (h12 : i ≠ 12) (h14 : i ≠ 14) : MrW y f n0 n1 ys G v0 v2 g (updL L i) w' := by
 have e : ∀ j, i ≠ j → updL L i j = L j := fun j hj => by unfold updL; rw [if_neg (Ne.symm hj)]
 refine ⟨fun h' => ?_, fun h' => ?_, fun h' => ?_, fun h' => ?_, fun h' j hj => ?_, fun h' => ?_⟩
 ·rw [e 1 h1, e 7 h7]
  by_cases hi : i = 8
  ·exact h8 hi
  ·rw [e 8 hi] at h'
   exact h.d8 h'
 ·rw [e 9 h9] at h'
  have := h.d9 h'
  unfold updL
  split
  ·rfl
  ·exact this
 ·rw [e 12 h12] at h'
  rw [e 9 h9]
  exact h.d12 h'
 ·rw [e 14 h14] at h'
  exact h.d14 h'
 ·rw [e 14 h14] at h'
  have := h.all h' j hj
  unfold updL
  split
  ·rfl
  ·exact this
 ·rw [e 14 h14] at h'
  rw [e 1 h1, e 7 h7, e 9 h9, e 12 h12]
  exact h.pre h'
theorem MrW.b1 {y : World} {f : Fl} {n0 n1 : Bs} {ys : List Value} {G : Nat} {v0 v2 : Value} {g : Nat × Nat × Nat × Option Addr × Nat} {L : Nat → Bool} {w' : World} (h : MrW y f n0 n1 ys G v0 v2 g L w') (hL : L 1 = false) (h14 : L 14 = false) : MrW y f n0 n1 ys G v0 v2 (w'.heap.size, g.2) (updL L 1) (w'.alloc (.cells #[.string (bs n0)] 9)) := by
 have e : ∀ j, 1 ≠ j → updL L 1 j = L j := fun j hj => by unfold updL; rw [if_neg (Ne.symm hj)]
 have no : ∀ j, (j = 8 ∨ j = 9 ∨ j = 12) → L j = true → False := fun j hj hj' => by
  have h8 : L 8 = true := by
   rcases hj with rfl | rfl | rfl
   ·exact hj'
   ·exact h.d9 hj'
   ·exact h.d9 (h.d12 hj')
  rw [(h.d8 h8).1] at hL
  cases hL
 obtain ⟨k, p1, p7, p9, p12⟩ := h.pre h14
 refine ⟨fun h' => ?_, fun h' => ?_, fun h' => ?_, fun h' => ?_, fun h' => ?_, fun _ => ⟨k.alloc _, fun _ => ⟨k.size, Blk.new _ _ _⟩, fun h' => ?_, fun h' => ?_, fun h' => ?_⟩⟩
 ·rw [e 8 (by decide)] at h'; exact (no 8 (by simp) h').elim
 ·rw [e 9 (by decide)] at h'; exact (no 9 (by simp) h').elim
 ·rw [e 12 (by decide)] at h'; exact (no 12 (by simp) h').elim
 ·rw [e 14 (by decide), h14] at h'; cases h'
 ·rw [e 14 (by decide), h14] at h'; cases h'
 ·rw [e 7 (by decide)] at h'
  exact ⟨(p7 h').1, (p7 h').2.alloc _⟩
 ·rw [e 9 (by decide)] at h'; exact (no 9 (by simp) h').elim
 ·rw [e 12 (by decide)] at h'; exact (no 12 (by simp) h').elim
theorem MrW.b7 {y : World} {f : Fl} {n0 n1 : Bs} {ys : List Value} {G : Nat} {v0 v2 : Value} {g : Nat × Nat × Nat × Option Addr × Nat} {L : Nat → Bool} {w' : World} (h : MrW y f n0 n1 ys G v0 v2 g L w') (hL : L 7 = false) (h14 : L 14 = false) : MrW y f n0 n1 ys G v0 v2 (g.1, w'.heap.size, g.2.2) (updL L 7) (w'.alloc (.cells #[.string (bs n1)] 9)) := by
 have e : ∀ j, 7 ≠ j → updL L 7 j = L j := fun j hj => by unfold updL; rw [if_neg (Ne.symm hj)]
 have no : ∀ j, (j = 8 ∨ j = 9 ∨ j = 12) → L j = true → False := fun j hj hj' => by
  have h8 : L 8 = true := by
   rcases hj with rfl | rfl | rfl
   ·exact hj'
   ·exact h.d9 hj'
   ·exact h.d9 (h.d12 hj')
  rw [(h.d8 h8).2] at hL
  cases hL
 obtain ⟨k, p1, p7, p9, p12⟩ := h.pre h14
 refine ⟨fun h' => ?_, fun h' => ?_, fun h' => ?_, fun h' => ?_, fun h' => ?_, fun _ => ⟨k.alloc _, fun h' => ?_, fun _ => ⟨k.size, Blk.new _ _ _⟩, fun h' => ?_, fun h' => ?_⟩⟩
 ·rw [e 8 (by decide)] at h'; exact (no 8 (by simp) h').elim
 ·rw [e 9 (by decide)] at h'; exact (no 9 (by simp) h').elim
 ·rw [e 12 (by decide)] at h'; exact (no 12 (by simp) h').elim
 ·rw [e 14 (by decide), h14] at h'; cases h'
 ·rw [e 14 (by decide), h14] at h'; cases h'
 ·rw [e 1 (by decide)] at h'
  exact ⟨(p1 h').1, (p1 h').2.alloc _⟩
 ·rw [e 9 (by decide)] at h'; exact (no 9 (by simp) h').elim
 ·rw [e 12 (by decide)] at h'; exact (no 12 (by simp) h').elim
theorem MrW.b9 {y : World} {f : Fl} {n0 n1 : Bs} {ys : List Value} {G : Nat} {v0 v2 : Value} {g : Nat × Nat × Nat × Option Addr × Nat} {L : Nat → Bool} {w' : World} (h : MrW y f n0 n1 ys G v0 v2 g L w') (hL : L 9 = false) (h8 : L 8 = true) (h14 : L 14 = false) : MrW y f n0 n1 ys G v0 v2 (g.1, g.2.1, w'.heap.size, g.2.2.2) (updL L 9) (w'.alloc (.cells (njC g.1 g.2.1).toArray 45)) := by
 have e : ∀ j, 9 ≠ j → updL L 9 j = L j := fun j hj => by unfold updL; rw [if_neg (Ne.symm hj)]
 have no : L 12 = true → False := fun hj' => by
  rw [h.d12 hj'] at hL
  cases hL
 obtain ⟨k, p1, p7, p9, p12⟩ := h.pre h14
 refine ⟨fun h' => ?_, fun h' => ?_, fun h' => ?_, fun h' => ?_, fun h' => ?_, fun _ => ⟨k.alloc _, fun h' => ?_, fun h' => ?_, fun _ _ => ?_, fun h' => ?_⟩⟩
 ·rw [e 1 (by decide), e 7 (by decide)]; exact h.d8 h8
 ·rw [e 8 (by decide)]; exact h8
 ·rw [e 12 (by decide)] at h'; exact (no h').elim
 ·rw [e 14 (by decide), h14] at h'; cases h'
 ·rw [e 14 (by decide), h14] at h'; cases h'
 ·exact ⟨(p1 (h.d8 h8).1).1, (p1 (h.d8 h8).1).2.alloc _⟩
 ·exact ⟨(p7 (h.d8 h8).2).1, (p7 (h.d8 h8).2).2.alloc _⟩
 ·exact ⟨rfl, .inr ⟨w'.heap.size, 1, (njC g.1 g.2.1).toArray, rfl, k.size, heap_alloc_new _ _, Nat.le_refl _, by decide, rfl, rfl⟩⟩
 ·rw [e 12 (by decide)] at h'; exact (no h').elim
theorem MrW.b12 {y : World} {f : Fl} {n0 n1 : Bs} {ys : List Value} {G : Nat} {v0 v2 : Value} {g : Nat × Nat × Nat × Option Addr × Nat} {L : Nat → Bool} {w' w'' : World} {A : Option Addr} {c : Nat} (h : MrW y f n0 n1 ys G v0 v2 g L w') (_hL : L 12 = false) (h9 : L 9 = true) (h14 : L 14 = false) (ho : w''.ownsRow y.heap.size 45 15 (.slice A (1 + f.jobs.length) c) (1 + f.jobs.length) (njC g.1 g.2.1 ++ ys)) (hg : w'.grownBy w'' (some g.2.2.1)) (hge : y.heap.size ≤ g.2.2.1) (hne : g.1 ≠ g.2.2.1 ∧ g.2.1 ≠ g.2.2.1) : MrW y f n0 n1 ys G v0 v2 (g.1, g.2.1, g.2.2.1, A, c) (updL L 12) w'' := by
 have e : ∀ j, 12 ≠ j → updL L 12 j = L j := fun j hj => by unfold updL; rw [if_neg (Ne.symm hj)]
 obtain ⟨k, p1, p7, p9, p12⟩ := h.pre h14
 have h8 := h.d9 h9
 refine ⟨fun h' => ?_, fun h' => ?_, fun h' => ?_, fun h' => ?_, fun h' => ?_, fun _ => ⟨k.grown hg (fun x hx => .inr (by cases hx; exact hge)), fun h' => ?_, fun h' => ?_, fun _ h' => ?_, fun _ => ho⟩⟩
 ·rw [e 1 (by decide), e 7 (by decide)]; exact h.d8 h8
 ·rw [e 8 (by decide)]; exact h8
 ·rw [e 9 (by decide)]; exact h9
 ·rw [e 14 (by decide), h14] at h'; cases h'
 ·rw [e 14 (by decide), h14] at h'; cases h'
 ·have hb := p1 (h.d8 h8).1
  exact ⟨hb.1, (hg.block _ hb.2.lt (by simpa using hne.1)).trans hb.2⟩
 ·have hb := p7 (h.d8 h8).2
  exact ⟨hb.1, (hg.block _ hb.2.lt (by simpa using hne.2)).trans hb.2⟩
 ·cases h'
def MoreOut (f : Fl) (n : Bs) (v0 v2 : Value) (e : Ending) (w' : World) : Prop :=
 if moreOk f n = true then ∃ A c, e = .returned (.tuple #[.agg #[v0, .slice A (1 + f.jobs.length) c, v2], .bool (!takenB f n)]) ∧ LsIn JbIn 15 w' (.slice A (1 + f.jobs.length) c) (moreF f n).jobs
 else ∃ v1, e = .returned (.tuple #[.agg #[v0, v1, v2], .bool false]) ∧ LsIn JbIn 15 w' v1 f.jobs
end Go.Proofs.YtnjjajanfedjiaaGreatDoor
namespace Go.Proofs.YtnjjajanfedjiaaGreatDoor
open Go.RowKit Go.BigFrame
attribute [local go_sem] bs_size bs_extract bs_append bs_toList
def vfx (a b c d e : Value) (l : List Value) (i : Nat) : Value := if i = 1 then a else if i = 7 then b else if i = 8 then c else if i = 9 then d else if i = 12 then e else l.getD i undef
theorem vfx_same (i : Nat) (a b c d e : Value) (l : List Value) (a' b' c' d' e' : Value) (h1 : i = 1 → a = a') (h7 : i = 7 → b = b') (h8 : i = 8 → c = c') (h9 : i = 9 → d = d') (h12 : i = 12 → e = e') : vfx a b c d e l i = vfx a' b' c' d' e' l i := by
 unfold vfx
 split
 ·exact h1 ‹_›
 split
 ·exact h7 ‹_›
 split
 ·exact h8 ‹_›
 split
 ·exact h9 ‹_›
 split
 ·exact h12 ‹_›
 rfl
theorem MrW.n14 {y : World} {f : Fl} {n0 n1 : Bs} {ys : List Value} {G : Nat} {v0 v2 : Value} {g : Nat × Nat × Nat × Option Addr × Nat} {L : Nat → Bool} {w' : World} (h : MrW y f n0 n1 ys G v0 v2 g L w') {i : Nat} (hL : L i = false) (hi : i < 14) : L 14 = false := by
 cases hx : L 14 with
 | false => rfl
 | true => rw [h.all hx i hi] at hL; cases hL
theorem more1_any (x : In) (vc : Value) (n : Bs) (X : Nat) (W : World) (h : W.cell? ⟨X, 0, none⟩ = some (.string (bs n))) :
  Calls Tryz.prog 52 #[.agg #[.int .i64 x.at_, .string (bs x.name), vc], .pointer (some ⟨X, 0, none⟩)] W fun e W' => e = .returned (.bool (x.name == n)) ∧ Keeps [] W W' := by
 have hl := World.block_lt_of_cell? _ _ h
 go_enter Tryz.func52, Tryz.ntmps52
 go_wp2
 go_ret
 exact ⟨rfl, (Keeps.refl _ _).alloc _⟩
theorem more2_any (x : Jb) (v2 v3 v4 : Value) (n : Bs) (X : Nat) (W : World) (h : W.cell? ⟨X, 0, none⟩ = some (.string (bs n))) (h2 : TxIn W v2 x.outs) :
  Calls Tryz.prog 54 #[.agg (jbCells x v2 v3 v4), .pointer (some ⟨X, 0, none⟩)] W fun e W' => e = .returned (.bool (x.outs.contains n)) ∧ Keeps [] W W' := by
 have hl := World.block_lt_of_cell? _ _ h
 obtain ⟨hlen, A, c, rfl, hc, hR⟩ := h2
 have HC : Hid (∀ W', Keeps [] W W' → Calls Tryz.prog 55 #[.slice A x.outs.length c, .string (bs n)] W' fun e w' => e = .returned (.bool (x.outs.contains n)) ∧ W' = w') := Lib.hid fun W' z => by
  have := contains_str n x.outs A c W' (hR.keep z) hlen
  rw [← List.contains_eq_any_beq] at this
  exact this
 clear hR hc
 generalize x.outs.contains n = R at *
 unfold jbCells
 go_enter Tryz.func54, Tryz.ntmps54
 go_wp2_with ((with_reducible refine (HC.out _ ((Keeps.refl _ _).alloc _)).mono ?_); rintro e w5 ⟨rfl, rfl⟩)
 go_ret
 exact ⟨rfl, (Keeps.refl _ _).alloc _⟩
set_option maxRecDepth 100000 in
set_option maxHeartbeats 16000000 in
theorem more_any (f : Fl) (v0 v1 v2 : Value) (name : Bs) (hnm : name.length ≤ 40) (w : World) (hF : FlIn w v0 v1 v2 f) (hjl : f.jobs.length ≤ 100000) :
  Calls Tryz.prog 16 #[.agg #[v0, v1, v2], .string (bs name)] w fun e w' => MoreOut f name v0 v2 e w' ∧ Keeps [] w w' := by
 have hi0 := hF.i0
 have hi1 := hF.i1
 obtain ⟨A1, c1, us, rfl, hc1, hn1, hJC, hRD⟩ := hF.i1.rows
 obtain ⟨hn0, A0, c0, rfl, hc0, hat0⟩ := hF.i0
 obtain ⟨hn2, A2, c2, rfl, hc2, hat2⟩ := hF.i2
 have HI0 := Lib.hid hi0
 have HI1 := Lib.hid hi1
 have HJC := Lib.hid hJC
 have HRD0 := Lib.hid hRD
 have HONE := Lib.hid hJC.one
 have HAT := Lib.hid hat0
 have HNM := Lib.hid (fun W => name_any name (by omega) W)
 obtain ⟨OK, hOK⟩ : ∃ B, moreOk f name = B := ⟨_, rfl⟩
 obtain ⟨NB', hNB⟩ : ∃ B, nameB name = B := ⟨_, rfl⟩
 rw [hNB] at HNM
 have HOK : Hid (OK = (!f.ins.isEmpty && decide (f.jobs.length < 16) && NB')) := Lib.hid (by rw [← hOK, ← hNB]; rfl)
 have HOK2 := Lib.hid hOK
 clear hOK hNB hF hi0 hi1 hat0 hat2 hJC hRD
 go_enter Tryz.func16, Tryz.ntmps16
 go_upto_region 1 with (fail)
 have hbF := ((Blk.new w 26 #[.slice A0 f.ins.length c0, .slice A1 f.jobs.length c1, .slice A2 f.outs.length c2]).alloc (.cells #[.string (bs name)] 9)).alloc (.cells #[.slice none 0 0, .slice none 0 0, .slice none 0 0] 26)
 have hbN := (Blk.new (w.alloc (.cells #[.slice A0 f.ins.length c0, .slice A1 f.jobs.length c1, .slice A2 f.outs.length c2] 26)) 9 #[.string (bs name)]).alloc (.cells #[.slice none 0 0, .slice none 0 0, .slice none 0 0] 26)
 have hbX := Blk.new ((w.alloc (.cells #[.slice A0 f.ins.length c0, .slice A1 f.jobs.length c1, .slice A2 f.outs.length c2] 26)).alloc (.cells #[.string (bs name)] 9)) 26 #[.slice none 0 0, .slice none 0 0, .slice none 0 0]
 have hk0 := (((Keeps.refl [] w).alloc (.cells #[.slice A0 f.ins.length c0, .slice A1 f.jobs.length c1, .slice A2 f.outs.length c2] 26)).alloc (.cells #[.string (bs name)] 9)).alloc (.cells #[.slice none 0 0, .slice none 0 0, .slice none 0 0] 26)
 obtain ⟨y0, hy0⟩ : ∃ z, ((w.alloc (.cells #[.slice A0 f.ins.length c0, .slice A1 f.jobs.length c1, .slice A2 f.outs.length c2] 26)).alloc (.cells #[.string (bs name)] 9)).alloc (.cells #[.slice none 0 0, .slice none 0 0, .slice none 0 0] 26) = z := ⟨_, rfl⟩
 rw [hy0] at hbF hbN hbX hk0 ⊢
 rw [fsz] at hbN
 rw [fsz, fsz] at hbX
 obtain ⟨F, hFn⟩ : ∃ F, w.heap.size = F := ⟨_, rfl⟩
 rw [hFn] at hbF hbN hbX ⊢
 obtain ⟨NB, hNn⟩ : ∃ F', F + 1 = F' := ⟨_, rfl⟩
 obtain ⟨X, hXn⟩ : ∃ F', F + 1 + 1 = F' := ⟨_, rfl⟩
 rw [hXn] at hbX ⊢
 rw [hNn] at hbN ⊢
 have HBF := Lib.hid hbF
 have HBN := Lib.hid hbN
 have HBX := Lib.hid hbX
 have HK0 := Lib.hid hk0
 have HWX : Hid (w.heap.size ≤ X) := Lib.hid (by omega)
 have hFX : F ≠ X := by omega
 have HFX := Lib.hid hFX
 have f0 : y0.cell? ⟨F, 0, none⟩ = some (.slice A0 f.ins.length c0) := hbF.cell 0
 have f1 : y0.cell? ⟨F, 1, none⟩ = some (.slice A1 f.jobs.length c1) := hbF.cell 1
 have f2 : y0.cell? ⟨F, 2, none⟩ = some (.slice A2 f.outs.length c2) := hbF.cell 2
 have nb0 : y0.cell? ⟨NB, 0, none⟩ = some (.string (bs name)) := hbN.cell 0
 clear hbF hbN hbX hk0 hy0 hFn hNn hXn hFX
 go_cut [22] (fun v wx => v = .bool (!OK) ∧ Hid (Keeps [] y0 wx))
 case first =>
  by_cases h1 : f.ins.length = 0
  ·have q1 : ((f.ins.length : Int) == 0) = true := by rw [h1]; rfl
   have hOKf : Hid (OK = false) := Lib.hid (by rw [HOK.out, List.isEmpty_iff.2 (List.eq_nil_of_length_eq_zero h1)]; rfl)
   clear h1
   go_wp2
   go_meet
   exact ⟨by rw [hOKf.out]; rfl, Lib.hid (Keeps.refl _ _)⟩
  ·have q1 : ((f.ins.length : Int) == 0) = false := by rw [beq_eq_false_iff_ne]; omega
   have hie : Hid (f.ins.isEmpty = false) := Lib.hid (by
    cases hx : f.ins with
    | nil => rw [hx] at h1; exact absurd rfl h1
    | cons _ _ => rfl)
   by_cases h2 : f.jobs.length < 16
   ·have q2 : ¬ ((f.jobs.length : Int) ≥ 16) := by omega
    have hOKf : Hid (OK = NB') := Lib.hid (by rw [HOK.out, hie.out, decide_eq_true h2]; rfl)
    clear h1 h2
    go_wp2_with ((with_reducible refine (HNM.out _).mono ?_); rintro e w5 ⟨rfl, k5⟩)
    go_meet
    exact ⟨by rw [hOKf.out], Lib.hid k5⟩
   ·have q2 : (f.jobs.length : Int) ≥ 16 := by omega
    have hOKf : Hid (OK = false) := Lib.hid (by rw [HOK.out, hie.out, decide_eq_false h2]; rfl)
    clear h1 h2
    go_wp2
    go_meet
    exact ⟨by rw [hOKf.out]; rfl, Lib.hid (Keeps.refl _ _)⟩
 case rest =>
  obtain ⟨rfl, HK1⟩ := hcut
  obtain ⟨y1, rfl⟩ : ∃ z : World, z = wc := ⟨_, rfl⟩
  clear f0 f1 f2 nb0
  have HKW := Lib.hid (HK0.out.trans HK1.out)
  have HBF1 := Lib.hid (HBF.out.keep HK1.out (by simp))
  have HBN1 := Lib.hid (HBN.out.keep HK1.out (by simp))
  have HBX1 := Lib.hid (HBX.out.keep HK1.out (by simp))
  have f0 : y1.cell? ⟨F, 0, none⟩ = some (.slice A0 f.ins.length c0) := HBF1.out.cell 0
  have f1 : y1.cell? ⟨F, 1, none⟩ = some (.slice A1 f.jobs.length c1) := HBF1.out.cell 1
  have f2 : y1.cell? ⟨F, 2, none⟩ = some (.slice A2 f.outs.length c2) := HBF1.out.cell 2
  cases hok : OK with
  | false =>
   have c0' : y1.cell? ⟨X, 0, none⟩ = some (.slice none 0 0) := HBX1.out.cell 0
   have c1' : y1.cell? ⟨X, 1, none⟩ = some (.slice none 0 0) := HBX1.out.cell 1
   have c2' : y1.cell? ⟨X, 2, none⟩ = some (.slice none 0 0) := HBX1.out.cell 2
   have z0 : y1.frozen? ⟨X, 0, none⟩ = false := HBX1.out.frozen 0
   have z1 : y1.frozen? ⟨X, 1, none⟩ = false := HBX1.out.frozen 1
   have z2 : y1.frozen? ⟨X, 2, none⟩ = false := HBX1.out.frozen 2
   have hkX : Keeps [X] y1 (((y1.setCell ⟨X, 0, none⟩ (.slice A0 f.ins.length c0)).setCell ⟨X, 1, none⟩ (.slice A1 f.jobs.length c1)).setCell ⟨X, 2, none⟩ (.slice A2 f.outs.length c2)) := (((Keeps.refl _ _).setCell (.inl (by simp)) _).setCell (.inl (by simp)) _).setCell (.inl (by simp)) _
   have HFB := Lib.hid ((((HBX1.out.set 0 (.slice A0 f.ins.length c0)).set 1 (.slice A1 f.jobs.length c1)).set 2 (.slice A2 f.outs.length c2)).congr rfl)
   have HKF := Lib.hid (HKW.out.trans' hkX fun x hx hl => by rw [List.mem_singleton] at hx; have := HWX.out; omega)
   have hmo : Hid (moreOk f name = false) := Lib.hid (HOK2.out.trans hok)
   have HJX : Hid (LsIn JbIn 15 w (.slice A1 f.jobs.length c1) f.jobs) := HI1
   clear hok hkX
   go_wp2
   (try simp only [Exit.inBlock, Exit.then])
   refine bodyPost_ret (results_cell_row_tmp rfl _ _ X _ _ _ _ rfl HFB.out Tryz.underlying26 rfl (by kernel_rfl)) rfl ?_
   refine ⟨?_, HKF.out⟩
   unfold MoreOut
   rw [if_neg (by rw [hmo.out]; decide)]
   exact ⟨_, rfl, HJX.out.keep HKF.out fun _ _ h => h.keep HKF.out⟩
  | true =>
   have hmo : Hid (moreOk f name = true) := Lib.hid (HOK2.out.trans hok)
   have hne : 0 < f.ins.length := by
    rcases Nat.eq_zero_or_pos f.ins.length with h | h
    ·have := HOK.out
     rw [hok, List.isEmpty_iff.2 (List.eq_nil_of_length_eq_zero h)] at this
     cases this
    ·exact h
   have hj16 : f.jobs.length < 16 := by
    have := HOK.out
    rw [hok] at this
    by_cases h : f.jobs.length < 16
    ·exact h
    ·rw [decide_eq_false h] at this
     simp at this
   obtain ⟨gi, cs, rfl, lgi, hcl, hin, hcell⟩ := HAT.out 0 hne
   obtain ⟨x0, hx0⟩ : ∃ x, f.ins[0] = x := ⟨_, rfl⟩
   rw [hx0] at hin
   obtain ⟨vc, rfl, -⟩ := hin
   have hgi1 : w.cell? ⟨gi, 1, none⟩ = some (.string (bs x0.name)) := by have := hcell 1 _ rfl; simpa using this
   have HGI := Lib.hid hgi1
   have HX0 := Lib.hid hx0
   have hni : (0 : Int) < (f.ins.length : Int) := by omega
   have HCI : Hid (∀ W, Keeps [] y1 W → Calls Tryz.prog 51 #[.slice (some ⟨gi, 0, none⟩) f.ins.length c0, .func (.func 52) #[] #[.pointer (some ⟨NB, 0, none⟩)]] W fun e w' => e = .returned (.bool (insB f name)) ∧ Keeps [] W w') := Lib.hid fun W z =>
    containsFuncI_any 52 _ (fun _ _ => by rfl) (fun x => x.name == name) f.ins _ W (HI0.out.keep (HKW.out.trans z) fun _ _ h => h.keep (HKW.out.trans z)) (fun x hx W' cs z' hcs => by
     obtain ⟨vc, rfl, _⟩ := hcs
     exact more1_any x vc name _ W' ((HBN1.out.keep (z.trans z') (by simp)).cell 0))
   have HCJ : Hid (∀ W, Keeps [] y1 W → Calls Tryz.prog 53 #[.slice A1 f.jobs.length c1, .func (.func 54) #[] #[.pointer (some ⟨NB, 0, none⟩)]] W fun e w' => e = .returned (.bool (f.jobs.any fun j => j.outs.contains name)) ∧ Keeps [] W w') := Lib.hid fun W z =>
    containsFuncJ_any 54 _ (fun _ _ => by rfl) (fun j => j.outs.contains name) f.jobs _ W (HI1.out.keep (HKW.out.trans z) fun _ _ h => h.keep (HKW.out.trans z)) (fun x hx W' cs z' hcs => by
     obtain ⟨v2, v3, v4, rfl, h2, _, _⟩ := hcs
     exact more2_any x v2 v3 v4 name _ W' ((HBN1.out.keep (z.trans z') (by simp)).cell 0) h2)
   have HTK : Hid (takenB f name = (insB f name || f.jobs.any fun j => j.outs.contains name)) := Lib.hid rfl
   clear hok hgi1 hcell hx0 HAT lgi hcl
   obtain ⟨TK, hTK⟩ : ∃ T, takenB f name = T := ⟨_, rfl⟩
   rw [hTK] at HTK
   have HTKE := Lib.hid hTK
   clear hTK
   generalize (f.jobs.any fun j => j.outs.contains name) = TJ at *
   go_upto_region 3 with (fail)
   go_cut [6] (fun v wx => v = .bool TK ∧ Hid (Keeps [] y1 wx))
   case first =>
    cases hi : insB f name with
    | true =>
     rw [hi] at HCI HTK
     have HTT : Hid (TK = true) := Lib.hid HTK.out
     clear hi
     go_wp2_with ((with_reducible refine (HCI.out _ (Keeps.refl _ _)).mono ?_); rintro e w5 ⟨rfl, k5⟩)
     go_meet
     exact ⟨by rw [HTT.out], Lib.hid k5⟩
    | false =>
     rw [hi] at HCI HTK
     have HTT : Hid (TK = TJ) := Lib.hid HTK.out
     clear hi
     go_wp2_with (first | ((with_reducible refine (HCI.out _ (Keeps.refl _ _)).mono ?_); rintro e w5 ⟨rfl, k5⟩; have g1 : w5.cell? ⟨F, 1, none⟩ = some (.slice A1 f.jobs.length c1) := k5.cell_of f1 (by simp)) | ((with_reducible refine (HCJ.out _ k5).mono ?_); rintro e w6 ⟨rfl, k6⟩))
     go_meet
     exact ⟨by rw [HTT.out], Lib.hid (k5.trans k6)⟩
   case rest =>
    obtain ⟨rfl, HK2⟩ := hcut
    obtain ⟨y2, rfl⟩ : ∃ z : World, z = wc := ⟨_, rfl⟩
    clear f0 f1 f2 HCI HCJ
    have HKZ := Lib.hid (HKW.out.trans HK2.out)
    have HBF2 := Lib.hid (HBF1.out.keep HK2.out (by simp))
    have f0 : y2.cell? ⟨F, 0, none⟩ = some (.slice (some ⟨gi, 0, none⟩) f.ins.length c0) := HBF2.out.cell 0
    have f1 : y2.cell? ⟨F, 1, none⟩ = some (.slice A1 f.jobs.length c1) := HBF2.out.cell 1
    have f2 : y2.cell? ⟨F, 2, none⟩ = some (.slice A2 f.outs.length c2) := HBF2.out.cell 2
    go_upto_region 5 with (fail)
    have hbG := Blk.new y2 26 #[.slice (some ⟨gi, 0, none⟩) f.ins.length c0, .slice A1 f.jobs.length c1, .slice A2 f.outs.length c2]
    have hk3 := (Keeps.refl [] y2).alloc (.cells #[.slice (some ⟨gi, 0, none⟩) f.ins.length c0, .slice A1 f.jobs.length c1, .slice A2 f.outs.length c2] 26)
    obtain ⟨y, hy⟩ : ∃ z, y2.alloc (.cells #[.slice (some ⟨gi, 0, none⟩) f.ins.length c0, .slice A1 f.jobs.length c1, .slice A2 f.outs.length c2] 26) = z := ⟨_, rfl⟩
    rw [hy] at hbG hk3 ⊢
    have hgw : w.heap.size ≤ y2.heap.size := HKZ.out.size
    have hgx : y2.heap.size ≠ X := by have := (HBX1.out.keep HK2.out (by simp)).lt; omega
    obtain ⟨G, hGn⟩ : ∃ G, y2.heap.size = G := ⟨_, rfl⟩
    rw [hGn] at hbG hgw hgx ⊢
    have HGB := Lib.hid hbG
    have HGW := Lib.hid hgw
    have HGX := Lib.hid hgx
    have HKY := Lib.hid (HKZ.out.trans hk3)
    have HZ : Hid (∀ W, Keeps [] y W → W.cell? ⟨F, 0, none⟩ = some (.slice (some ⟨gi, 0, none⟩) f.ins.length c0) ∧ W.cell? ⟨F, 1, none⟩ = some (.slice A1 f.jobs.length c1) ∧ W.cell? ⟨NB, 0, none⟩ = some (.string (bs name)) ∧ W.cell? ⟨gi, 1, none⟩ = some (.string (bs x0.name))) := Lib.hid (fun W z => by
     have h1 := HBF2.out.keep (hk3.trans z) (by simp)
     exact ⟨h1.cell 0, h1.cell 1, (HBN1.out.keep (HK2.out.trans (hk3.trans z)) (by simp)).cell 0, (HKY.out.trans z).cell_of HGI.out (by simp)⟩)
    have HRD := Lib.hid (HRD0.out.keep HKY.out)
    have HX2 := Lib.hid ((HBX1.out.keep HK2.out (by simp)).keep hk3 (by simp))
    clear hbG hk3 hy hgw hgx hGn f0 f1 f2
    go_cut [] (fun wx => Hid (MrFin y f name x0.name us.flatten G (.slice (some ⟨gi, 0, none⟩) f.ins.length c0) (.slice A2 f.outs.length c2) wx))
    case first =>
     rename_i J1 K1 hJ1 hK1
     refine wp_region_fit (by kernel_rfl) (by kernel_rfl) (by kernel_rfl) (fun g i => vfx (.slice (some ⟨g.1, 0, none⟩) 1 1) (.slice (some ⟨g.2.1, 0, none⟩) 1 1) (.agg (njC g.1 g.2.1).toArray) (.slice (some ⟨g.2.2.1, 0, none⟩) 1 1) (.slice g.2.2.2.1 (1 + f.jobs.length) g.2.2.2.2) [.string (bs name), undef, .pointer (some ⟨F, 0, none⟩), .slice (some ⟨gi, 0, none⟩) f.ins.length c0, .pointer (some ⟨gi, 0, none⟩), .pointer (some ⟨gi, 1, none⟩), .string (bs x0.name), undef, undef, undef, .pointer (some ⟨F, 1, none⟩), .slice A1 f.jobs.length c1, undef, .pointer (some ⟨G, 1, none⟩), undef] i) (fun g L w' => MrW y f name x0.name us.flatten G (.slice (some ⟨gi, 0, none⟩) f.ins.length c0) (.slice A2 f.outs.length c2) g L w') ⟨(0, 0, 0, none, 0), ?_⟩ ?_ ?_
     ·exact ⟨(fun h => by cases h), (fun h => by cases h), (fun h => by cases h), (fun h => by cases h), (fun h => by cases h), fun _ => ⟨(Keeps.refl _ _).drew, (fun h => by cases h), (fun h => by cases h), (fun h => by cases h), fun h => by cases h⟩⟩
     ·show AllC _ 15
      refine ⟨⟨⟨⟨⟨⟨⟨⟨⟨⟨⟨⟨⟨⟨⟨trivial, ?_⟩, ?_⟩, ?_⟩, ?_⟩, ?_⟩, ?_⟩, ?_⟩, ?_⟩, ?_⟩, ?_⟩, ?_⟩, ?_⟩, ?_⟩, ?_⟩, ?_⟩
      ·intro hb g L a1 w1 hL hD hF hW
       have e3 : a1.tmps.getD 3 undef = .pointer (some ⟨NB, 0, none⟩) := hF.old 3 (by kernel_rfl)
       have hL14 : L 14 = false := hW.n14 hL (by decide)
       have hN := hW.far (i := 0) (by decide) (by decide) (fun h => absurd h (by decide)) (by decide) (by decide) (by decide)
       obtain ⟨z0, z1, z2, z3⟩ := HZ.out w1 (hW.pre hL14).1
       refine fit_val rfl hb rfl hF (by exact hN) ?_
       show (execOp _ _).run _ _ = Result.ok (.value (.string (bs name))) _
       clear hN hF hD hb
       simp only [execOp, Act.eval, e3]
       go_simp
      ·intro hb g L a1 w1 hL hD hF hW
       have e35 : a1.tmps.getD 35 undef = .string (bs name) := hF.y 0 _ 35 rfl rfl (hD 0 (by kernel_rfl))
       have hL14 : L 14 = false := hW.n14 hL (by decide)
       have q35 := e35
       rw [Array.getD_eq_getD_getElem?] at q35
       refine wpOp_val (u := .slice (some ⟨w1.heap.size, 0, none⟩) 1 1) (w' := w1.alloc (.cells #[.string (bs name)] 9)) rfl rfl ?_ ⟨(w1.heap.size, g.2), (hF.congr (v' := _) fun j hj => ?_).put hb rfl, hW.b1 hL hL14⟩
       ·obtain ⟨z0, z1, z2, z3⟩ := HZ.out w1 (hW.pre hL14).1
        clear hF hD hb hW
        simp only [execOp, Act.eval, e35]
        go_simp
       ·by_cases h1 : j = 1
        ·subst h1; rw [hL] at hj; cases hj
        by_cases h8 : j = 8
        ·subst h8; rw [(hW.d8 hj).1] at hL; cases hL
        exact vfx_same j _ _ _ _ _ _ _ _ _ _ _ (fun h => absurd h h1) (fun _ => rfl) (fun h => absurd h h8) (fun _ => rfl) (fun _ => rfl)
      ·intro hb g L a1 w1 hL hD hF hW
       have e2 : a1.tmps.getD 2 undef = .pointer (some ⟨F, 0, none⟩) := hF.old 2 (by kernel_rfl)
       have hL14 : L 14 = false := hW.n14 hL (by decide)
       have hN := hW.far (i := 2) (by decide) (by decide) (fun h => absurd h (by decide)) (by decide) (by decide) (by decide)
       refine fit_val rfl hb rfl hF (by exact hN) ?_
       show (execOp _ _).run _ _ = Result.ok (.value (.pointer (some ⟨F, 0, none⟩))) _
       clear hN hF hD hb
       simp only [execOp, Act.eval, e2]
       go_simp
      ·intro hb g L a1 w1 hL hD hF hW
       have e37 : a1.tmps.getD 37 undef = .pointer (some ⟨F, 0, none⟩) := hF.y 2 _ 37 rfl rfl (hD 2 (by kernel_rfl))
       have hL14 : L 14 = false := hW.n14 hL (by decide)
       have hN := hW.far (i := 3) (by decide) (by decide) (fun h => absurd h (by decide)) (by decide) (by decide) (by decide)
       obtain ⟨z0, z1, z2, z3⟩ := HZ.out w1 (hW.pre hL14).1
       refine fit_val rfl hb rfl hF (by exact hN) ?_
       show (execOp _ _).run _ _ = Result.ok (.value (.slice (some ⟨gi, 0, none⟩) f.ins.length c0)) _
       clear hN hF hD hb
       simp only [execOp, Act.eval, e37]
       go_simp
      ·intro hb g L a1 w1 hL hD hF hW
       have e38 : a1.tmps.getD 38 undef = .slice (some ⟨gi, 0, none⟩) f.ins.length c0 := hF.y 3 _ 38 rfl rfl (hD 3 (by kernel_rfl))
       have hL14 : L 14 = false := hW.n14 hL (by decide)
       have hN := hW.far (i := 4) (by decide) (by decide) (fun h => absurd h (by decide)) (by decide) (by decide) (by decide)
       refine fit_val rfl hb rfl hF (by exact hN) ?_
       show (execOp _ _).run _ _ = Result.ok (.value (.pointer (some ⟨gi, 0, none⟩))) _
       clear hN hF hD hb
       simp only [execOp, Act.eval, e38]
       go_simp
      ·intro hb g L a1 w1 hL hD hF hW
       have e39 : a1.tmps.getD 39 undef = .pointer (some ⟨gi, 0, none⟩) := hF.y 4 _ 39 rfl rfl (hD 4 (by kernel_rfl))
       have hL14 : L 14 = false := hW.n14 hL (by decide)
       have hN := hW.far (i := 5) (by decide) (by decide) (fun h => absurd h (by decide)) (by decide) (by decide) (by decide)
       refine fit_val rfl hb rfl hF (by exact hN) ?_
       show (execOp _ _).run _ _ = Result.ok (.value (.pointer (some ⟨gi, 1, none⟩))) _
       clear hN hF hD hb
       simp only [execOp, Act.eval, e39]
       go_simp
      ·intro hb g L a1 w1 hL hD hF hW
       have e40 : a1.tmps.getD 40 undef = .pointer (some ⟨gi, 1, none⟩) := hF.y 5 _ 40 rfl rfl (hD 5 (by kernel_rfl))
       have hL14 : L 14 = false := hW.n14 hL (by decide)
       have hN := hW.far (i := 6) (by decide) (by decide) (fun h => absurd h (by decide)) (by decide) (by decide) (by decide)
       obtain ⟨z0, z1, z2, z3⟩ := HZ.out w1 (hW.pre hL14).1
       refine fit_val rfl hb rfl hF (by exact hN) ?_
       show (execOp _ _).run _ _ = Result.ok (.value (.string (bs x0.name))) _
       clear hN hF hD hb
       simp only [execOp, Act.eval, e40]
       go_simp
      ·intro hb g L a1 w1 hL hD hF hW
       have e41 : a1.tmps.getD 41 undef = .string (bs x0.name) := hF.y 6 _ 41 rfl rfl (hD 6 (by kernel_rfl))
       have hL14 : L 14 = false := hW.n14 hL (by decide)
       have q41 := e41
       rw [Array.getD_eq_getD_getElem?] at q41
       refine wpOp_val (u := .slice (some ⟨w1.heap.size, 0, none⟩) 1 1) (w' := w1.alloc (.cells #[.string (bs x0.name)] 9)) rfl rfl ?_ ⟨(g.1, w1.heap.size, g.2.2), (hF.congr (v' := _) fun j hj => ?_).put hb rfl, hW.b7 hL hL14⟩
       ·obtain ⟨z0, z1, z2, z3⟩ := HZ.out w1 (hW.pre hL14).1
        clear hF hD hb hW
        simp only [execOp, Act.eval, e41]
        go_simp
       ·by_cases h7 : j = 7
        ·subst h7; rw [hL] at hj; cases hj
        by_cases h8 : j = 8
        ·subst h8; rw [(hW.d8 hj).2] at hL; cases hL
        exact vfx_same j _ _ _ _ _ _ _ _ _ _ _ (fun _ => rfl) (fun h => absurd h h7) (fun h => absurd h h8) (fun _ => rfl) (fun _ => rfl)
      ·intro hb g L a1 w1 hL hD hF hW
       have e36 : a1.tmps.getD 36 undef = .slice (some ⟨g.1, 0, none⟩) 1 1 := hF.y 1 _ 36 rfl rfl (hD 1 (by kernel_rfl))
       have e42 : a1.tmps.getD 42 undef = .slice (some ⟨g.2.1, 0, none⟩) 1 1 := hF.y 7 _ 42 rfl rfl (hD 7 (by kernel_rfl))
       have hL14 : L 14 = false := hW.n14 hL (by decide)
       have q36 := e36
       rw [Array.getD_eq_getD_getElem?] at q36
       have q42 := e42
       rw [Array.getD_eq_getD_getElem?] at q42
       have hN := hW.far (i := 8) (by decide) (by decide) (fun _ => ⟨hD 1 (by kernel_rfl), hD 7 (by kernel_rfl)⟩) (by decide) (by decide) (by decide)
       refine fit_val rfl hb rfl hF (by exact hN) ?_
       show (execOp _ _).run _ _ = Result.ok (.value (.agg (njC g.1 g.2.1).toArray)) _
       clear hN hF hD hb
       simp only [execOp, Act.eval, e36, e42]
       go_simp
       rfl
      ·intro hb g L a1 w1 hL hD hF hW
       have e43 : a1.tmps.getD 43 undef = .agg (njC g.1 g.2.1).toArray := hF.y 8 _ 43 rfl rfl (hD 8 (by kernel_rfl))
       have hL14 : L 14 = false := hW.n14 hL (by decide)
       refine wpOp_val (u := .slice (some ⟨w1.heap.size, 0, none⟩) 1 1) (w' := w1.alloc (.cells #[.int .i64 0, .int .i64 6, .slice (some ⟨g.1, 0, none⟩) 1 1, .slice (some ⟨g.2.1, 0, none⟩) 1 1, .slice none 0 0, .string ⟨#[]⟩, .string ⟨#[]⟩, .int .i64 0, .int .i64 0, .string ⟨#[]⟩, .string ⟨#[]⟩, .int .i64 0, .int .i64 0, .string ⟨#[]⟩, .int .i64 0] 45)) rfl rfl ?_ ⟨(g.1, g.2.1, w1.heap.size, g.2.2.2), (hF.congr (v' := _) fun j hj => ?_).put hb rfl, hW.b9 hL (hD 8 (by kernel_rfl)) hL14⟩
       ·have q43 : a1.tmps[43]?.getD undef = .agg #[.int .i64 0, .int .i64 6, .slice (some ⟨g.1, 0, none⟩) 1 1, .slice (some ⟨g.2.1, 0, none⟩) 1 1, .slice none 0 0, .string ⟨#[]⟩, .string ⟨#[]⟩, .int .i64 0, .int .i64 0, .string ⟨#[]⟩, .string ⟨#[]⟩, .int .i64 0, .int .i64 0, .string ⟨#[]⟩, .int .i64 0] := by
         have h := e43
         rw [Array.getD_eq_getD_getElem?] at h
         exact h
        clear hF hD hb hW e43
        simp only [execOp]
        go_simp
       ·by_cases h9 : j = 9
        ·subst h9; rw [hL] at hj; cases hj
        exact vfx_same j _ _ _ _ _ _ _ _ _ _ _ (fun _ => rfl) (fun _ => rfl) (fun _ => rfl) (fun h => absurd h h9) (fun _ => rfl)
      ·intro hb g L a1 w1 hL hD hF hW
       have e2 : a1.tmps.getD 2 undef = .pointer (some ⟨F, 0, none⟩) := hF.old 2 (by kernel_rfl)
       have hL14 : L 14 = false := hW.n14 hL (by decide)
       have hN := hW.far (i := 10) (by decide) (by decide) (fun h => absurd h (by decide)) (by decide) (by decide) (by decide)
       refine fit_val rfl hb rfl hF (by exact hN) ?_
       show (execOp _ _).run _ _ = Result.ok (.value (.pointer (some ⟨F, 1, none⟩))) _
       clear hN hF hD hb
       simp only [execOp, Act.eval, e2]
       go_simp
      ·intro hb g L a1 w1 hL hD hF hW
       have e45 : a1.tmps.getD 45 undef = .pointer (some ⟨F, 1, none⟩) := hF.y 10 _ 45 rfl rfl (hD 10 (by kernel_rfl))
       have hL14 : L 14 = false := hW.n14 hL (by decide)
       have hN := hW.far (i := 11) (by decide) (by decide) (fun h => absurd h (by decide)) (by decide) (by decide) (by decide)
       obtain ⟨z0, z1, z2, z3⟩ := HZ.out w1 (hW.pre hL14).1
       refine fit_val rfl hb rfl hF (by exact hN) ?_
       show (execOp _ _).run _ _ = Result.ok (.value (.slice A1 f.jobs.length c1)) _
       clear hN hF hD hb
       simp only [execOp, Act.eval, e45]
       go_simp
      ·intro hb g L a1 w1 hL hD hF hW
       have e44 : a1.tmps.getD 44 undef = .slice (some ⟨g.2.2.1, 0, none⟩) 1 1 := hF.y 9 _ 44 rfl rfl (hD 9 (by kernel_rfl))
       have e46 : a1.tmps.getD 46 undef = .slice A1 f.jobs.length c1 := hF.y 11 _ 46 rfl rfl (hD 11 (by kernel_rfl))
       have hL14 : L 14 = false := hW.n14 hL (by decide)
       obtain ⟨k1, p1, p7, p9, _⟩ := hW.pre hL14
       have h9 := hD 9 (by kernel_rfl)
       have h8 := hW.d9 h9
       obtain ⟨q1, b1⟩ := p1 (hW.d8 h8).1
       obtain ⟨q7, b7⟩ := p7 (hW.d8 h8).2
       have ho := p9 h9 hL
       obtain ⟨iv, hiv, hvz0, hvz1, hvz2⟩ := info_parts catJinfo
       obtain ⟨v', w2, hrun, ho', hg'⟩ := run_append_rd (P := Tryz.prog) w1 y.heap.size 23 23 45 iv _ 15 208 Tryz.underlying23 hiv hvz0 hvz1 hvz2 rfl (by decide) ho (HRD.out.keep k1) c1 HONE.out (by unfold maxLen; omega) (by omega) k1.size
       obtain ⟨A', c', rfl, _⟩ := own_form ho'
       have hty : ∃ cur, w1.heap[g.2.2.1]? = some (.cells cur 45 (0, 0)) := by
        rcases ho.2 with ⟨h, _⟩ | ⟨_, _, cur, h, _, hh, _⟩
        ·cases h
        ·injection h with h; injection h with h; injection h with h; subst h; exact ⟨cur, hh⟩
       obtain ⟨cur, hcur⟩ := hty
       have hn1 : g.1 ≠ g.2.2.1 := Blk.ne b1 (show Blk w1 g.2.2.1 _ cur from hcur) (by decide)
       have hn2 : g.2.1 ≠ g.2.2.1 := Blk.ne b7 (show Blk w1 g.2.2.1 _ cur from hcur) (by decide)
       have hge : y.heap.size ≤ g.2.2.1 := (ho.lt _ rfl).1
       have hnew := hW.b12 hL h9 hL14 ho' hg' hge ⟨hn1, hn2⟩
       refine wpOp_wp rfl rfl (Lib.wp_append_run w1 _ _ _ _ rfl _ _ (show a1.eval (.tmp 44) = _ from e44) (show a1.eval (.tmp 46) = _ from e46) _ w2 hrun ?_)
       refine ⟨(g.1, g.2.1, g.2.2.1, A', c'), (hF.congr (v' := _) fun j hj => ?_).put hb rfl, hnew⟩
       by_cases h12 : j = 12
       ·subst h12; rw [hL] at hj; cases hj
       exact vfx_same j _ _ _ _ _ _ _ _ _ _ _ (fun _ => rfl) (fun _ => rfl) (fun _ => rfl) (fun _ => rfl) (fun h => absurd h h12)
      ·intro hb g L a1 w1 hL hD hF hW
       have e7 : a1.tmps.getD 7 undef = .pointer (some ⟨G, 0, none⟩) := hF.old 7 (by kernel_rfl)
       have hL14 : L 14 = false := hW.n14 hL (by decide)
       have hN := hW.far (i := 13) (by decide) (by decide) (fun h => absurd h (by decide)) (by decide) (by decide) (by decide)
       refine fit_val rfl hb rfl hF (by exact hN) ?_
       show (execOp _ _).run _ _ = Result.ok (.value (.pointer (some ⟨G, 1, none⟩))) _
       clear hN hF hD hb
       simp only [execOp, Act.eval, e7]
       go_simp
      ·intro hb g L a1 w1 hL hD hF hW
       have e48 : a1.tmps.getD 48 undef = .pointer (some ⟨G, 1, none⟩) := hF.y 13 _ 48 rfl rfl (hD 13 (by kernel_rfl))
       have e47 : a1.tmps.getD 47 undef = .slice g.2.2.2.1 (1 + f.jobs.length) g.2.2.2.2 := hF.y 12 _ 47 rfl rfl (hD 12 (by kernel_rfl))
       obtain ⟨k1, p1, p7, _, p12⟩ := hW.pre hL
       have h12 := hD 12 (by kernel_rfl)
       have h8 := hW.d9 (hW.d12 h12)
       obtain ⟨q1, b1⟩ := p1 (hW.d8 h8).1
       obtain ⟨q7, b7⟩ := p7 (hW.d8 h8).2
       have ho := p12 h12
       have hG := HGB.out.keep k1 (by simp)
       have x1 : w1.cell? ⟨G, 1, none⟩ = some (.slice A1 f.jobs.length c1) := hG.cell 1
       have x2 : w1.frozen? ⟨G, 1, none⟩ = false := hG.frozen 1
       have hkG : Keeps [G] w1 (w1.setCell ⟨G, 1, none⟩ (.slice g.2.2.2.1 (1 + f.jobs.length) g.2.2.2.2)) := (Keeps.refl _ _).setCell (.inl (by simp)) _
       have hfin : MrFin y f name x0.name us.flatten G (.slice (some ⟨gi, 0, none⟩) f.ins.length c0) (.slice A2 f.outs.length c2) (w1.setCell ⟨G, 1, none⟩ (.slice g.2.2.2.1 (1 + f.jobs.length) g.2.2.2.2)) :=
        ⟨g.1, g.2.1, g.2.2.2.1, g.2.2.2.2, k1.of_nil.trans hkG, q1, q7, (hG.set 1 _).congr rfl, b1.keep hkG (by simpa using Blk.ne b1 hG (by decide)), b7.keep hkG (by simpa using Blk.ne b7 hG (by decide)), own_keep ho hkG (fun x hx => by simpa using OfTy.ne (own_ty ho x hx) hG.ty (by decide))⟩
       refine wpOp_skip (w' := w1.setCell ⟨G, 1, none⟩ (.slice g.2.2.2.1 (1 + f.jobs.length) g.2.2.2.2)) rfl rfl ?_ ⟨g, hF.put hb rfl, ?_⟩
       ·clear hF hD hb hW p12 ho
        simp only [execOp, Act.eval, e48, e47]
        go_simp
       ·have e : ∀ j, 14 ≠ j → updL L 14 j = L j := fun j hj => by unfold updL; rw [if_neg (Ne.symm hj)]
        refine ⟨fun h' => ?_, fun h' => ?_, fun h' => ?_, fun _ => hfin, fun _ j hj => ?_, fun h' => by cases h'⟩
        ·rw [e 1 (by decide), e 7 (by decide)]; exact hW.d8 h8
        ·rw [e 8 (by decide)]; exact h8
        ·rw [e 9 (by decide)]; exact hW.d12 h12
        ·rw [e j (by omega)]
         match j, hj with
         | 0, _ => exact hD 0 (by kernel_rfl)
         | 1, _ => exact hD 1 (by kernel_rfl)
         | 2, _ => exact hD 2 (by kernel_rfl)
         | 3, _ => exact hD 3 (by kernel_rfl)
         | 4, _ => exact hD 4 (by kernel_rfl)
         | 5, _ => exact hD 5 (by kernel_rfl)
         | 6, _ => exact hD 6 (by kernel_rfl)
         | 7, _ => exact hD 7 (by kernel_rfl)
         | 8, _ => exact hD 8 (by kernel_rfl)
         | 9, _ => exact hD 9 (by kernel_rfl)
         | 10, _ => exact hD 10 (by kernel_rfl)
         | 11, _ => exact hD 11 (by kernel_rfl)
         | 12, _ => exact hD 12 (by kernel_rfl)
         | 13, _ => exact hD 13 (by kernel_rfl)
     ·intro g L w' hall hW
      refine hK1 _ _ (Met.intro (hJ1 _ _ ?_))
      repeat apply Exists.intro
      exact ⟨Lib.hid (hW.d14 (hall 14 (by decide))), rfl⟩
    case rest =>
     obtain ⟨o1, o2, A, c, hkG, l1, l2, hG, b1, b2, ho⟩ := hcut.out
     obtain ⟨y4, rfl⟩ : ∃ z : World, z = wc := ⟨_, rfl⟩
     have hX4 := HX2.out.keep hkG (by simpa using Ne.symm HGX.out)
     have g0 : y4.cell? ⟨G, 0, none⟩ = some (.slice (some ⟨gi, 0, none⟩) f.ins.length c0) := hG.cell 0
     have g1 : y4.cell? ⟨G, 1, none⟩ = some (.slice A (1 + f.jobs.length) c) := hG.cell 1
     have g2 : y4.cell? ⟨G, 2, none⟩ = some (.slice A2 f.outs.length c2) := hG.cell 2
     have c0' : y4.cell? ⟨X, 0, none⟩ = some (.slice none 0 0) := hX4.cell 0
     have c1' : y4.cell? ⟨X, 1, none⟩ = some (.slice none 0 0) := hX4.cell 1
     have c2' : y4.cell? ⟨X, 2, none⟩ = some (.slice none 0 0) := hX4.cell 2
     have z0 : y4.frozen? ⟨X, 0, none⟩ = false := hX4.frozen 0
     have z1 : y4.frozen? ⟨X, 1, none⟩ = false := hX4.frozen 1
     have z2 : y4.frozen? ⟨X, 2, none⟩ = false := hX4.frozen 2
     have hkX : Keeps [X] y4 (((y4.setCell ⟨X, 0, none⟩ (.slice (some ⟨gi, 0, none⟩) f.ins.length c0)).setCell ⟨X, 1, none⟩ (.slice A (1 + f.jobs.length) c)).setCell ⟨X, 2, none⟩ (.slice A2 f.outs.length c2)) := (((Keeps.refl _ _).setCell (.inl (by simp)) _).setCell (.inl (by simp)) _).setCell (.inl (by simp)) _
     have HFB : Hid (Blk (((y4.setCell ⟨X, 0, none⟩ (.slice (some ⟨gi, 0, none⟩) f.ins.length c0)).setCell ⟨X, 1, none⟩ (.slice A (1 + f.jobs.length) c)).setCell ⟨X, 2, none⟩ (.slice A2 f.outs.length c2)) X 26 #[.slice (some ⟨gi, 0, none⟩) f.ins.length c0, .slice A (1 + f.jobs.length) c, .slice A2 f.outs.length c2]) := Lib.hid ((((hX4.set 0 (.slice (some ⟨gi, 0, none⟩) f.ins.length c0)).set 1 (.slice A (1 + f.jobs.length) c)).set 2 (.slice A2 f.outs.length c2)).congr rfl)
     have HKF := Lib.hid ((HKY.out.trans' hkG fun x hx hl => by rw [List.mem_singleton] at hx; have := HGW.out; omega).trans' hkX fun x hx hl => by rw [List.mem_singleton] at hx; have := HWX.out; omega)
     have hb1 := b1.keep hkX (by simpa using Blk.ne b1 hX4 (by decide))
     have hb2 := b2.keep hkX (by simpa using Blk.ne b2 hX4 (by decide))
     have hof := own_keep ho hkX (fun x hx => by simpa using OfTy.ne (own_ty ho x hx) hX4.ty (by decide))
     obtain ⟨yf, hyf⟩ : ∃ z, (((y4.setCell ⟨X, 0, none⟩ (.slice (some ⟨gi, 0, none⟩) f.ins.length c0)).setCell ⟨X, 1, none⟩ (.slice A (1 + f.jobs.length) c)).setCell ⟨X, 2, none⟩ (.slice A2 f.outs.length c2)) = z := ⟨_, rfl⟩
     have HKF2 := HKF
     rw [hyf] at hb1 hb2 hof HKF2
     have HLS : Hid (LsIn JbIn 15 yf (.slice A (1 + f.jobs.length) c) (moreF f name).jobs) := Lib.hid (by
      have e0 : (f.ins.headD ⟨0, [], []⟩).name = x0.name := by
       rw [← HX0.out, List.headD_eq_head?_getD, List.head?_eq_getElem?, List.getElem?_eq_getElem hne]
       rfl
      have hjl : (moreF f name).jobs.length = 1 + f.jobs.length := by simp [moreF]; omega
      have hjc : JobsC yf (njC o1 o2 :: us) (moreF f name).jobs := by
       have h1 := HJC.out.keep HKF2.out
       have h2 : JobsC yf [njC o1 o2] [newJ name ((f.ins.headD ⟨0, [], []⟩).name)] := ⟨rfl, fun j h h' => by
        obtain rfl : j = 0 := by simp at h; omega
        refine ⟨.slice (some ⟨o1, 0, none⟩) 1 1, .slice (some ⟨o2, 0, none⟩) 1 1, .slice none 0 0, rfl, ⟨by simp [newJ], _, _, rfl, Nat.le_refl _, ?_⟩, ⟨by simp [newJ], _, _, rfl, Nat.le_refl _, ?_⟩, ⟨by simp [newJ], _, _, rfl, Nat.le_refl _, Rd.nil⟩⟩
        ·exact ⟨rfl, fun _ => ⟨_, rfl, by simp, hb1.lt, fun j u hu => by rw [add_at, Nat.zero_add, hb1.cell j]; simpa [newJ, strs] using hu⟩⟩
        ·refine ⟨rfl, fun _ => ⟨_, rfl, by simp, hb2.lt, fun j u hu => ?_⟩⟩
         rw [add_at, Nat.zero_add, hb2.cell j, ← e0]
         simpa [newJ, strs] using hu⟩
       exact h2.append h1
      have hls := hjc.lsIn (base := y.heap.size) (v := .slice A (1 + f.jobs.length) c) (by rw [hjl]; exact hof) (by rw [hjl]; omega)
      exact hls)
     rw [← hyf] at HLS
     clear hb1 hb2 hof hkX hkG hX4 hG b1 b2 ho HKF2 hyf
     go_wp2
     (try simp only [Exit.inBlock, Exit.then])
     refine bodyPost_ret (results_cell_row_tmp rfl _ _ X _ _ _ _ rfl HFB.out Tryz.underlying26 rfl (by kernel_rfl)) rfl ?_
     refine ⟨?_, HKF.out⟩
     unfold MoreOut
     rw [if_pos hmo.out]
     exact ⟨A, c, by rw [HTKE.out]; rfl, HLS.out⟩
end Go.Proofs.YtnjjajanfedjiaaGreatDoor
namespace Go.Proofs.YtnjjajanfedjiaaGreatDoor
open Go.RowKit
attribute [local go_sem] bs_size bs_extract bs_append bs_toList
theorem ints_at' (l : List Int) (n : Nat) (h : n < l.length) : (l.map (Value.int .i64))[n]? = some (.int .i64 l[n]) := by simp [h]
theorem equalI_any (l m : List Int) (A B : Option Addr) (c d : Nat) (w : World) (hA : Rd w [] 1 A l.length (l.map (Value.int .i64))) (hB : Rd w [] 1 B m.length (m.map (Value.int .i64))) (hl : l.length ≤ 4294967296) (hm : m.length ≤ 4294967296) :
  Calls Tryz.prog 48 #[.slice A l.length c, .slice B m.length d] w fun e w' => e = .returned (.bool (l == m)) ∧ Keeps [] w w' := by
 by_cases hne : l.length = m.length
 ·have hcast : ((l.length : Int) == (m.length : Int)) = true := by simp [hne]
  have HA := Lib.hid hA
  have HB := Lib.hid hB
  have HN := Lib.hid hne
  have hn1 : l.length ≤ m.length := by omega
  have hn2 : m.length ≤ l.length := by omega
  clear hA hB hne hcast
  go_enter Tryz.func48, Tryz.ntmps48
  go_wp2
  go_loopw [13] (fun i wr => ∃ n : Nat, n ≤ l.length ∧ i = .int .i64 n ∧ Hid (∀ j (hj : j < n) (hl : j < l.length) (hm : j < m.length), l[j] = m[j]) ∧ Keeps [] w wr) (fun i _ => l.length - (intOf i).toNat)
  case atStart => exact ⟨0, Nat.zero_le _, rfl, fun j hj => absurd hj (by omega), Keeps.refl _ _⟩
  case round =>
   obtain ⟨n, hn, rfl, hno, hk⟩ := hrel
   by_cases hlt : n < l.length
   ·have hlt2 : n < m.length := by omega
    obtain ⟨b, o, rfl, _, hb, hc⟩ := (HA.out.keep hk).open' (by omega) (by omega)
    obtain ⟨b', o', rfl, _, hb', hc'⟩ := (HB.out.keep hk).open' (by omega) (by omega)
    have d1 := hc n _ (ints_at' l n hlt)
    have d2 := hc' n _ (ints_at' m n hlt2)
    have hq1 : (n : Int) < (l.length : Int) := by omega
    have hq2 : (n : Int) < (m.length : Int) := by omega
    have hq0 : (0 : Int) ≤ (n : Int) := by omega
    clear hc hc'
    cases hq : l[n] == m[n] with
    | true =>
     have hq' : (l[n] == m[n]) = true := hq
     have HQ : Hid (l[n] = m[n]) := eq_of_beq hq
     clear hq
     go_wp2
     go_quiet (fail)
     go_wp2
     go_roundw
     case rel =>
      refine ⟨n + 1, by omega, by go_num, fun j hj hl hm => ?_, hk.drewN _⟩
      by_cases h : j < n
      ·exact hno j h hl hm
      ·obtain rfl : j = n := by omega
       exact HQ.out
     case measure => simp [intOf]; omega
    | false =>
     have hq' : (l[n] == m[n]) = false := hq
     have HQ : Hid (l[n] ≠ m[n]) := beq_eq_false_iff_ne.1 hq
     clear hq
     go_wp2
     go_quiet (fail)
     go_wp2
     go_ret
     refine ⟨?_, hk.drewN _⟩
     have : (l == m) = false := by
      rw [beq_eq_false_iff_ne]
      rintro rfl
      exact HQ.out rfl
     rw [this]; rfl
   ·have hfin : Hid ((l == m) = true) := by
     rw [Hid, beq_iff_eq]
     exact List.ext_getElem HN.out fun j h1 h2 => hno j (by omega) h1 h2
    go_wp2
    go_ret
    exact ⟨by rw [hfin.out]; rfl, hk⟩
 ·have hne' : ((l.length : Nat) == m.length) = false := by simpa using hne
  have hfin : Hid ((l == m) = false) := by
   rw [Hid, beq_eq_false_iff_ne]
   rintro rfl
   exact hne rfl
  clear hA hB
  go_enter Tryz.func48, Tryz.ntmps48
  go_wp2
  go_ret
  exact ⟨by rw [hfin.out]; rfl, Keeps.refl _ _⟩
end Go.Proofs.YtnjjajanfedjiaaGreatDoor
