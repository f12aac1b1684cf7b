/- The disk: its state as plain data, what it is in memory, and a contract for each of its functions. -/
import Derived.Test.YtelafmakgokhbaaDoorProg
import Derived.Test.YtelafmakgokhbaaDoorBase
namespace Go.Proofs.YtelafmakgokhbaaDoor
open Go.RowKit

/-- An error by its number: 0 is none. -/
def errV (e : Nat) : Value := if e = 0 then .nilIface else .iface 47 (.int .i64 (e : Int))

theorem errV_0 : errV 0 = .nilIface := rfl
theorem errV_2 : errV 2 = .iface 47 (.int .i64 2) := rfl
theorem errV_4 : errV 4 = .iface 47 (.int .i64 4) := rfl
theorem errV_14 : errV 14 = .iface 47 (.int .i64 14) := rfl
/-- 64 bytes of 0. -/
@[irreducible] def zeros : Bs := List.replicate 64 0

/-- A disk: what is sure, what is not, the fuse. -/
structure Dk where
  sure : List Bs
  wait : List (Nat × Bs)
  fuse : Int

def waitCells (l : List (Nat × Bs)) : List Value := l.flatMap fun p => [.int .i64 (p.1 : Int), .string (bs p.2)]
theorem waitCells_length (l : List (Nat × Bs)) : (waitCells l).length = l.length * 2 := by
  induction l with
  | nil => rfl
  | cons p l ih => simp [waitCells] at ih ⊢; omega
theorem waitCells_append (l m : List (Nat × Bs)) : waitCells (l ++ m) = waitCells l ++ waitCells m := by simp [waitCells]

theorem waitCells_at (l : List (Nat × Bs)) (k : Nat) (h : k < l.length) : (waitCells l)[k * 2]? = some (.int .i64 (l[k].1 : Int)) ∧ (waitCells l)[k * 2 + 1]? = some (.string (bs l[k].2)) := by
  induction l generalizing k with
  | nil => simp at h
  | cons p l ih =>
    rcases k with _ | k
    · simp [waitCells]
    · have := ih k (by simpa using h)
      simpa [waitCells, Nat.succ_mul] using this

def strs (l : List Bs) : List Value := l.map fun s => .string (bs s)

theorem strs_at (l : List Bs) (i : Nat) : (strs l).toArray[i]? = l[i]?.map fun s => Value.string (bs s) := by
  simp [strs]
theorem strs_set (l : List Bs) (i : Nat) (s : Bs) : (strs l).toArray.setIfInBounds i (.string (bs s)) = (strs (l.set i s)).toArray := by
  simp [strs]

/-- The disk D lies at block g; all its blocks are in L. -/
def Dsk (w : World) (L : List Nat) (g : Nat) (D : Dk) : Prop :=
  ∃ gs v, Blk w g 50 #[.slice (some ⟨gs, 0, none⟩) D.sure.length D.sure.length, v, .int .i64 D.fuse] ∧
    Blk w gs 9 (strs D.sure).toArray ∧ w.ownsRow 0 65 2 v D.wait.length (waitCells D.wait) ∧
    g ∈ L ∧ gs ∈ L ∧ (∀ k, v.ownBlock = some k → k ∈ L) ∧ (∀ x ∈ L, x < w.heap.size) ∧
    D.sure.length ≤ 16384 ∧ (∀ p ∈ D.wait, p.1 < D.sure.length) ∧ -1 ≤ D.fuse ∧ D.fuse ≤ 9223372036854775807

/-! ### burn -/
def Dk.burnt (D : Dk) : Dk := if 0 < D.fuse then { D with fuse := D.fuse - 1 } else D
theorem burnt_wait (D : Dk) : D.burnt.wait = D.wait := by unfold Dk.burnt; split <;> rfl
theorem burnt_sure (D : Dk) : D.burnt.sure = D.sure := by unfold Dk.burnt; split <;> rfl
theorem burn_zero (g : Nat) (w : World) (hf : w.cell? ⟨g, 2, none⟩ = some (.int .i64 0)) :
    Calls Tryd.prog 26 #[.pointer (some ⟨g, 0, none⟩)] w fun e w' => e = .returned (.bool false) ∧ w = w' := by
  go_enter Tryd.func26, Tryd.ntmps26
  go_wp2
  go_ret
  exact ⟨rfl, rfl⟩
theorem burn_neg (g : Nat) (f : Int) (w : World) (h : f < 0) (hf : w.cell? ⟨g, 2, none⟩ = some (.int .i64 f)) :
    Calls Tryd.prog 26 #[.pointer (some ⟨g, 0, none⟩)] w fun e w' => e = .returned (.bool true) ∧ w = w' := by
  go_enter Tryd.func26, Tryd.ntmps26
  go_wp2
  go_ret
  exact ⟨rfl, rfl⟩
theorem burn_pos (g : Nat) (f : Int) (w : World) (h : 0 < f) (h2 : f ≤ 9223372036854775807) (hf : w.cell? ⟨g, 2, none⟩ = some (.int .i64 f)) (hz : w.frozen? ⟨g, 2, none⟩ = false) :
    Calls Tryd.prog 26 #[.pointer (some ⟨g, 0, none⟩)] w fun e w' => e = .returned (.bool true) ∧ w.setCell ⟨g, 2, none⟩ (.int .i64 (f - 1)) = w' := by
  go_enter Tryd.func26, Tryd.ntmps26
  go_wp2
  go_ret
  exact ⟨rfl, rfl⟩

theorem Dsk.fields {w : World} {L : List Nat} {g : Nat} {D : Dk} (h : Dsk w L g D) : ∃ gs v, w.cell? ⟨g, 0, none⟩ = some (.slice (some ⟨gs, 0, none⟩) D.sure.length D.sure.length) ∧
    w.cell? ⟨g, 1, none⟩ = some v ∧ w.cell? ⟨g, 2, none⟩ = some (.int .i64 D.fuse) ∧ (∀ i, w.frozen? ⟨g, i, none⟩ = false) := by
  obtain ⟨gs, v, h1, _⟩ := h
  exact ⟨gs, v, by rw [h1.cell]; rfl, by rw [h1.cell]; rfl, by rw [h1.cell]; rfl, fun i => h1.frozen i⟩

theorem own_ne {w : World} {base : Nat} {e t : TypeId} {size n : Nat} {v : Value} {xs : List Value} {g : Nat} {cs : Array Value} (h : w.ownsRow base e size v n xs) (hg : Blk w g t cs) (hne : e ≠ t) : v.ownBlock ≠ some g := by
  rcases h.2 with ⟨rfl, _⟩ | ⟨g', cap, cur, rfl, _, hh, _⟩
  · simp [Value.ownBlock]
  · intro he
    have : g' = g := by simpa [Value.ownBlock] using he
    subst this
    exact Blk.ne (w := w) (g := g') hh hg hne rfl
theorem own_alloc_of {w w' : World} {base : Nat} {e : TypeId} {size n : Nat} {v : Value} {xs : List Value} {o : Obj} (h : w.ownsRow base e size v n xs) (hk : Keeps [] w.drew w') : (w'.alloc o).ownsRow base e size v n xs :=
  (own_keep (w := w.drew) (L := []) h hk (by simp)).alloc o

/-- burn: false just where the fuse is spent; one is taken off it. -/
theorem burn_any {w : World} {L : List Nat} {g : Nat} {D : Dk} (h : Dsk w L g D) :
    Calls Tryd.prog 26 #[.pointer (some ⟨g, 0, none⟩)] w fun e w' => e = .returned (.bool (decide (D.fuse ≠ 0))) ∧ Dsk w' L g D.burnt ∧ Keeps L w w' := by
  obtain ⟨_, _, _, _, hf, hz⟩ := h.fields
  obtain ⟨gs, v, h1, h2, h3, h4, h5, h6, h7, h8, h9, h10, h11⟩ := id h
  rcases Int.lt_trichotomy D.fuse 0 with hc | hc | hc
  · have hb : D.burnt = D := by unfold Dk.burnt; rw [if_neg (by omega)]
    refine (burn_neg g _ w hc hf).mono ?_
    rintro e w' ⟨rfl, rfl⟩
    rw [hb]
    exact ⟨by simp; omega, h, Keeps.refl _ _⟩
  · have hb : D.burnt = D := by unfold Dk.burnt; rw [if_neg (by omega)]
    rw [hc] at hf
    refine (burn_zero g w hf).mono ?_
    rintro e w' ⟨rfl, rfl⟩
    rw [hb]
    exact ⟨by simp [hc], h, Keeps.refl _ _⟩
  · have hb : D.burnt = { D with fuse := D.fuse - 1 } := by unfold Dk.burnt; rw [if_pos hc]
    refine (burn_pos g _ w hc h11 hf (hz 2)).mono ?_
    rintro e w' ⟨rfl, rfl⟩
    rw [hb]
    have hk : Keeps L w (w.setCell ⟨g, 2, none⟩ (.int .i64 (D.fuse - 1))) := (Keeps.refl L w).setCell (.inl h4) _
    have hgs : gs ≠ g := (h2.ne h1 (by decide))
    refine ⟨by simp; omega, ⟨gs, v, (h1.set 2 _).congr rfl, h2.far hgs _, ?_, h4, h5, h6, fun x hx => Nat.lt_of_lt_of_le (h7 x hx) hk.size, h8, h9, by show -1 ≤ D.fuse - 1; omega, by show D.fuse - 1 ≤ _; omega⟩, hk⟩
    exact ownsRow_setCell_other h3 (own_ne h3 h1 (by decide)) _

/-! ### zero -/
/-- 64 cells of 0. -/
@[irreducible] def zcells : Array Value := madeCells (Value.int .u8 0).cells 64
theorem zcells_at (j : Nat) (h : j < 64) : zcells[j]? = some (.int .u8 0) := by
  have e := toList_madeCells_one (.int .u8 0) 64
  rw [← Array.getElem?_toList]
  have e2 : zcells = madeCells #[Value.int .u8 0] 64 := by unfold zcells; rfl
  rw [e2, e, List.getElem?_replicate, if_pos h]
theorem zinfo : (Tryd.prog.info? 5).map (fun i => (i.zero, i.size, i.bytes)) = some (some (.int .u8 0), 1, 1) := by kernel_rfl
theorem zmake (W : World) : (Instr.makeSlice 56 (.int .i64 64) (.int .i64 64)).run Tryd.prog W = .ok (.slice (some ⟨W.heap.size, 0, none⟩) 64 64) (W.alloc (.cells zcells 5)) := by
  obtain ⟨i0, hi, hz0, hz1, hz2⟩ := info_parts zinfo
  have h := run_make (P := Tryd.prog) W 56 5 i0 (.int .u8 0) Tryd.underlying56 hi hz0 .i64 .i64 64 64 (by omega) (by omega) (by rw [hz2]; omega) (by omega)
  rw [hz1] at h
  simp only [show Int.toNat 64 = 64 from rfl, Nat.mul_one] at h
  have e2 : zcells = madeCells (Value.int .u8 0).cells 64 := by unfold zcells; rfl
  rw [e2]
  exact h
theorem zeros_length : zeros.length = 64 := by unfold zeros; exact List.length_replicate
theorem zconv (W : World) : (convert 56 9 (.slice (some ⟨W.heap.size, 0, none⟩) 64 64)).run Tryd.prog (W.alloc (.cells zcells 5)) = .ok (.string (bs zeros)) (W.alloc (.cells zcells 5)) := by
  have hz := run_convert_bytes_back (P := Tryd.prog) (W.alloc (.cells zcells 5)) 56 9 5 ⟨W.heap.size, 0, none⟩ 64 zeros Tryd.underlying56 Tryd.underlying5 Tryd.underlying9 (fun j hj => ?_)
  · rw [zeros_length] at hz
    exact hz
  have h64 : j < 64 := by rw [zeros_length] at hj; exact hj
  rw [add_at, (Blk.new W 5 zcells).cell, Nat.zero_add, zcells_at j h64]
  simp only [zeros, List.getElem_replicate]
  rfl
theorem zero_any (w : World) : Calls Tryd.prog 27 #[] w fun e w' => e = .returned (.string (bs zeros)) ∧ Keeps [] w w' := by
  have hmk := zmake
  have hcv := zconv w
  go_enter Tryd.func27, Tryd.ntmps27
  go_wp2
  go_ret
  exact ⟨rfl, (Keeps.refl _ _).alloc _⟩

/-! ### New, Size, Fuse -/
def Dk.new (n : Nat) : Dk := { sure := List.replicate n [], wait := [], fuse := -1 }
theorem sinfo : (Tryd.prog.info? 9).map (fun i => (i.zero, i.size, i.bytes)) = some (some (.string ⟨#[]⟩), 1, 16) := by kernel_rfl
theorem smake (n : Nat) (hn : n ≤ 16384) (W : World) : (Instr.makeSlice 22 (.int .i64 (n : Int)) (.int .i64 (n : Int))).run Tryd.prog W =
    .ok (.slice (some ⟨W.heap.size, 0, none⟩) n n) (W.alloc (.cells (strs (List.replicate n [])).toArray 9)) := by
  obtain ⟨i0, hi, hz0, hz1, hz2⟩ := info_parts sinfo
  have h := run_make (P := Tryd.prog) W 22 9 i0 (.string ⟨#[]⟩) Tryd.underlying22 hi hz0 .i64 .i64 n n (by omega) (by omega) (by rw [hz2]; omega) (by omega)
  rw [hz1] at h
  simp only [Int.toNat_natCast, Nat.mul_one] at h
  have hc : madeCells (Value.string ⟨#[]⟩).cells n = (strs (List.replicate n [])).toArray := by
    apply Array.ext'
    show (madeCells #[Value.string ⟨#[]⟩] n).toList = _
    rw [toList_madeCells_one]
    simp [strs, bs]
  rw [hc] at h
  exact h
theorem new_no (n : Int) (w : World) (h : n < 8 ∨ 16384 < n) :
    Calls Tryd.prog 7 #[.int .i64 n] w fun e w' => e = .returned (.tuple #[.pointer none, errV 2]) ∧ w = w' := by
  rcases h with h | h
  · go_enter Tryd.func7, Tryd.ntmps7
    go_wp2
    go_ret2
    exact ⟨rfl, rfl⟩
  · have h' : ¬ n < 8 := by omega
    go_enter Tryd.func7, Tryd.ntmps7
    go_wp2
    go_ret2
    exact ⟨rfl, rfl⟩
theorem new_yes (n : Nat) (w : World) (h1 : 8 ≤ n) (h2 : n ≤ 16384) :
    Calls Tryd.prog 7 #[.int .i64 (n : Int)] w fun e w' => e = .returned (.tuple #[.pointer (some ⟨w.heap.size + 1, 0, none⟩), .nilIface]) ∧
      Dsk w' [w.heap.size + 1, w.heap.size] (w.heap.size + 1) (Dk.new n) ∧ Keeps [] w w' := by
  have hmk := smake n h2
  go_enter Tryd.func7, Tryd.ntmps7
  go_wp2
  go_ret2
  refine ⟨rfl, ?_, ((Keeps.refl _ _).alloc _).alloc _⟩
  refine ⟨w.heap.size, .slice none 0 0, ?_, ?_, World.ownsRow_nil _ _ _ _, by simp, by simp, by simp [Value.ownBlock], ?_, ?_, ?_, ?_, ?_⟩
  · have := Blk.new (w.alloc (.cells (strs (List.replicate n [])).toArray 9)) 50 #[.slice (some ⟨w.heap.size, 0, none⟩) n n, .slice none 0 0, .int .i64 (-1)]
    simpa [Dk.new] using this
  · exact (Blk.new w 9 _).alloc _
  · simp; omega
  · simpa [Dk.new] using h2
  · simp [Dk.new]
  · simp [Dk.new]
  · simp [Dk.new]
end Go.Proofs.YtelafmakgokhbaaDoor
