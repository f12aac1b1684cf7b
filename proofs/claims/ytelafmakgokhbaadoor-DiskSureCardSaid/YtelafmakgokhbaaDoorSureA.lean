/- DiskSure: what stands in memory; the closure that fills a text up. -/
import Derived.Test.YtelafmakgokhbaaDoorSureM
import Derived.Test.YtelafmakgokhbaaDoorShRep
import Derived.Test.YtelafmakgokhbaaDoorQuiet
namespace Go.Proofs.YtelafmakgokhbaaDoor
open Go.RowKit Go.BigFrame
attribute [local go_sem] bs_size bs_extract bs_append bs_toList errV_0 errV_2 errV_4 errV_14
theorem padded_take64 (s : Bs) (h : s.length ≤ 64) : (s ++ zeros).take 64 = padded s := by
  unfold padded zeros
  rw [List.take_append, List.take_of_length_le h, List.take_replicate, List.drop_replicate]
  congr 2
  omega
theorem padded_full {s : Bs} (h : s.length = 64) : padded s = s := by
  unfold padded
  rw [h, List.drop_of_length_le (by rw [zeros_length]; exact Nat.le_refl _), List.append_nil]
theorem rep64s (w : World) : Calls Tryd.prog 9 #[.string ⟨#[0]⟩, .int .i64 64] w fun e w' => e = .returned (.string (bs zeros)) ∧ Keeps [] w w' := by
  refine (Tryd.strings_Repeat ⟨#[0]⟩ 64 w (by omega) (by show 1 * 64 ≤ _; omega)).mono ?_
  rintro e w' ⟨rfl, hb⟩
  refine ⟨?_, Keeps.of_below hb⟩
  have := Lib.repeatL_replicate 0 1 64
  show Ending.returned (.string ⟨(Lib.repeatL [0] 64).toArray⟩) = _
  rw [show ([0] : List UInt8) = List.replicate 1 0 from rfl, this]
  unfold zeros
  rfl
set_option maxRecDepth 100000 in
theorem full_any (s : Bs) (hs : s.length ≤ 64) (w : World) : Calls Tryd.prog 8 #[.string (bs s)] w fun e w' => e = .returned (.string (bs (padded s))) ∧ Keeps [] w w' := by
  have hp := padded_take64 s hs
  have HR := Lib.hid (rep64s w)
  have hz := zeros_length
  obtain ⟨z, hzz⟩ : ∃ z, zeros = z := ⟨_, rfl⟩
  rw [hzz] at HR hp hz
  have HP := Lib.hid hp
  clear hp hzz
  have hb1 : ¬ (9223372036854775807 : Int) < (s.length : Int) + 64 := by omega
  have hl : (s ++ z).length = s.length + 64 := by rw [List.length_append, hz]
  have h1 : (64 : Int) ≤ (s.length : Int) + 64 := by omega
  go_enter Tryd.func8, Tryd.ntmps8
  go_wp2_with fail
  refine HR.out.mono ?_
  rintro e w2 ⟨rfl, hk⟩
  go_wp2
  go_ret
  exact ⟨by rw [← HP.out]; rfl, hk⟩
/-- What stands in memory: the disk, the map, and the boxes that the closures share. -/
structure SS (w0 W : World) (L : List Nat) (g bm base x1 x2 x3 x4 : Nat) (B : Option Addr) (na e : Nat) (D : Dk) (n : Nat) (m : May) : Prop where
  da : DA w0 W L g D
  may : MayIn base W L bm n m
  b1 : Blk W x1 23 #[.slice B na e]
  b2 : Blk W x2 34 #[.func (.func 8) #[] #[]]
  b3 : Blk W x3 28 #[.pointer (some ⟨g, 0, none⟩)]
  b4 : Blk W x4 35 #[.map (some bm)]
  o1 : x1 ∉ L ∧ x1 ≠ bm
  o2 : x2 ∉ L ∧ x2 ≠ bm
  o3 : x3 ∉ L ∧ x3 ≠ bm
  o4 : x4 ∉ L ∧ x4 ≠ bm
  base0 : w0.heap.size ≤ base
  bm0 : w0.heap.size ≤ bm
section
variable {w0 W W' : World} {L : List Nat} {g bm base x1 x2 x3 x4 : Nat} {B : Option Addr} {na e : Nat} {D : Dk} {n : Nat} {m : May}
theorem SS.quiet (h : SS w0 W L g bm base x1 x2 x3 x4 B na e D n m) (k : Keeps [] W W') : SS w0 W' L g bm base x1 x2 x3 x4 B na e D n m :=
  ⟨h.da.quiet k, h.may.quiet k, h.b1.keep k (by simp), h.b2.keep k (by simp), h.b3.keep k (by simp), h.b4.keep k (by simp), h.o1, h.o2, h.o3, h.o4, h.base0, h.bm0⟩
theorem out_turn {L' : List Nat} {x bm : Nat} (h : x ∉ L ∧ x ≠ bm) (hx : x < W.heap.size) (hL : ∀ y ∈ L', y ∈ L ∨ W.heap.size ≤ y) : x ∉ L' ∧ x ≠ bm :=
  ⟨fun hm => by rcases hL x hm with h1 | h1; exact h.1 h1; omega, h.2⟩
theorem SS.disk {L' : List Nat} {D' : Dk} (h : SS w0 W L g bm base x1 x2 x3 x4 B na e D n m) (hd : DA w0 W' L' g D') (k : Keeps L W W') (hL : ∀ x ∈ L', x ∈ L ∨ W.heap.size ≤ x) : SS w0 W' L' g bm base x1 x2 x3 x4 B na e D' n m :=
  ⟨hd, h.may.turn k hL, h.b1.keep k h.o1.1, h.b2.keep k h.o2.1, h.b3.keep k h.o3.1, h.b4.keep k h.o4.1, out_turn h.o1 h.b1.lt hL, out_turn h.o2 h.b2.lt hL, out_turn h.o3 h.b3.lt hL, out_turn h.o4 h.b4.lt hL, h.base0, h.bm0⟩
theorem SS.map {R : List Nat} {n' : Nat} {m' : May} (h : SS w0 W L g bm base x1 x2 x3 x4 B na e D n m) (k : Keeps (bm :: R) W W') (hR : ∀ y ∈ R, y ∉ L ∧ w0.heap.size ≤ y ∧ y ≠ x1 ∧ y ≠ x2 ∧ y ≠ x3 ∧ y ≠ x4) (hm : MayIn base W' L bm n' m') : SS w0 W' L g bm base x1 x2 x3 x4 B na e D n' m' := by
  have hbL : bm ∉ L := by obtain ⟨vs, h1, h2, h3, h4, h5, h6, h7⟩ := h.may; exact h5
  have out : ∀ x, x ≠ bm → (∀ y ∈ R, y ≠ x) → x ∉ bm :: R := fun x h1 h2 hx => by
    rcases List.mem_cons.1 hx with hx | hx
    · exact h1 hx
    · exact h2 x hx rfl
  refine ⟨⟨h.da.1.keep k (fun x hx _ => ?_), h.da.2.1.trans' k (fun x hx hl => ?_), h.da.2.2⟩, hm, h.b1.keep k (out _ h.o1.2 fun y hy => (hR y hy).2.2.1), h.b2.keep k (out _ h.o2.2 fun y hy => (hR y hy).2.2.2.1), h.b3.keep k (out _ h.o3.2 fun y hy => (hR y hy).2.2.2.2.1), h.b4.keep k (out _ h.o4.2 fun y hy => (hR y hy).2.2.2.2.2), h.o1, h.o2, h.o3, h.o4, h.base0, h.bm0⟩
  · rcases List.mem_cons.1 hx with rfl | hx
    · exact hbL
    · exact (hR x hx).1
  · rcases List.mem_cons.1 hx with rfl | hx
    · have := h.bm0; omega
    · have := (hR x hx).2.1; omega
theorem SS.rowOff (h : SS w0 W L g bm base x1 x2 x3 x4 B na e D n m) {v : Value} {k : Nat} {xs : List Value} (hv : W.ownsRow base 9 1 v k xs) (hL : ∀ g, v.ownBlock = some g → g ∉ L ∧ g ≠ bm) : ∀ y ∈ v.ownBlock.toList, y ∉ L ∧ w0.heap.size ≤ y ∧ y ≠ x1 ∧ y ≠ x2 ∧ y ≠ x3 ∧ y ≠ x4 := by
  intro y hy
  rw [Option.mem_toList] at hy
  have hb := (hv.lt y hy).1
  have n1 := own_ne hv h.b1 (by decide)
  have n2 := own_ne hv h.b2 (by decide)
  have n3 := own_ne hv h.b3 (by decide)
  have n4 := own_ne hv h.b4 (by decide)
  rw [hy] at n1 n2 n3 n4
  exact ⟨(hL y hy).1, Nat.le_trans h.base0 hb, fun e => n1 (by rw [e]), fun e => n2 (by rw [e]), fun e => n3 (by rw [e]), fun e => n4 (by rw [e])⟩
end
end Go.Proofs.YtelafmakgokhbaaDoor
