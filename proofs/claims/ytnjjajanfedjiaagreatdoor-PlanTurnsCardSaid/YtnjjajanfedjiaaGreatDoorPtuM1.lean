/- Words for memory: what a call keeps of the world, slices that read as lists outside a footprint, blocks that are known whole, strings as lists of bytes. No program in sight. A region that draws its order, walked by a relation that each operation keeps, whatever has come up: for regions that make and write memory. No program in sight. Tables as plain data: what may be, how it is written, how it is read. No program in sight. -/
import Derived.WalkKit
import Derived.WalkLawsBesides
import Derived.BigQuiet
import Derived.Deep.QuietTactic
import Derived.Deep.RegionHeld3
import Derived.Deep.AppendLies
import Derived.Deep.DrawnRows
import Derived.Deep.LoopGhost
import Derived.Lib.Hide
import Derived.Deep.RegionLaw
import Derived.Deep.RegionWith
import Derived.StillTailTactics
import Derived.Laws.BytesString
import Derived.Orders
import Derived.Lib.ItoaLen
import Derived.Lib.AtoiAll
set_option linter.unusedSimpArgs false
set_option linter.unusedVariables false
namespace Go.Proofs.YtnjjajanfedjiaaGreatDoor
open Go.RowKit
abbrev Bs := List UInt8
def bs (l : Bs) : ByteArray := ⟨l.toArray⟩
theorem bs_data (s : ByteArray) : bs s.data.toList = s := rfl
theorem bs_size (l : Bs) : (bs l).size = l.length := by simp [bs, ByteArray.size]
theorem bs_inj {a b : Bs} (h : bs a = bs b) : a = b := by
 unfold bs at h
 injection h with h
 simpa using congrArg Array.toList h
theorem bs_toList (l : Bs) : (bs l).toList = l := by rw [ByteArray.toList_eq]; simp [bs]
theorem bs_append (a b : Bs) : bs a ++ bs b = bs (a ++ b) := by
 apply ByteArray.ext
 rw [ByteArray.data_append]
 simp [bs]
theorem bs_extract (l : Bs) (a b : Nat) : (bs l).extract a b = bs ((l.take b).drop a) := by
 apply ByteArray.ext
 rw [ByteArray.data_extract]
 simp [bs, List.drop_take]
theorem bs_get (l : Bs) (i : Nat) (h : i < (bs l).size) : (bs l)[i] = l[i]'(by rw [bs_size] at h; exact h) := rfl
structure Keeps (L : List Nat) (w w' : World) : Prop where
 os : w'.os = w.os
 output : w'.output = w.output
 size : w.heap.size ≤ w'.heap.size
 block : ∀ k, k < w.heap.size → k ∉ L → w'.heap[k]? = w.heap[k]?
section
variable {L L' : List Nat} {a w w' w'' : World}
theorem Keeps.refl (L : List Nat) (w : World) : Keeps L w w := ⟨rfl, rfl, Nat.le_refl _, fun _ _ _ => rfl⟩
theorem Keeps.trans' (h : Keeps L w w') (k : Keeps L' w' w'') (hL : ∀ x ∈ L', x < w.heap.size → x ∈ L) : Keeps L w w'' :=
 ⟨k.os.trans h.os, k.output.trans h.output, Nat.le_trans h.size k.size, fun i hi hn =>
  (k.block i (Nat.lt_of_lt_of_le hi h.size) (fun hm => hn (hL i hm hi))).trans (h.block i hi hn)⟩
theorem Keeps.trans (h : Keeps L w w') (k : Keeps L w' w'') : Keeps L w w'' := h.trans' k fun _ hx _ => hx
theorem Keeps.weaken (h : Keeps L w w') (hL : ∀ x ∈ L, x < w.heap.size → x ∈ L') : Keeps L' w w' :=
 ⟨h.os, h.output, h.size, fun k hk hn => h.block k hk fun hm => hn (hL k hm hk)⟩
theorem Keeps.of_nil (h : Keeps [] w w') : Keeps L w w' := h.weaken (by simp)
theorem Keeps.drew (h : Keeps L a w) : Keeps L a w.drew := ⟨h.os, h.output, h.size, h.block⟩
theorem Keeps.drewN (h : Keeps L a w) (n : Nat) : Keeps L a (w.drewN n) := ⟨h.os, h.output, h.size, h.block⟩
theorem Keeps.alloc (h : Keeps L a w) (o : Obj) : Keeps L a (w.alloc o) :=
 ⟨h.os, h.output, Nat.le_trans h.size (by simp), fun k hk hn => (Below.heap_alloc w o k (Nat.lt_of_lt_of_le hk h.size)).trans (h.block k hk hn)⟩
theorem Keeps.setCell (h : Keeps L a w) {p : Addr} (hp : p.block ∈ L ∨ a.heap.size ≤ p.block) (u : Value) : Keeps L a (w.setCell p u) :=
 ⟨h.os, h.output, by simpa [World.setCell] using h.size, fun k hk hn => (Below.heap_setCell w p u k (by
  rintro rfl
  rcases hp with hp | hp
  ·exact hn hp
  ·omega)).trans (h.block k hk hn)⟩
theorem Keeps.grown (h : Keeps L a w) {row : Option Nat} (hg : w.grownBy w' row) (hr : ∀ g, row = some g → g ∈ L ∨ a.heap.size ≤ g) : Keeps L a w' :=
 ⟨hg.os.trans h.os, hg.output.trans h.output, Nat.le_trans h.size hg.size, fun k hk hn =>
  (hg.block k (Nat.lt_of_lt_of_le hk h.size) (by
   intro he
   rcases hr k he.symm with hx | hx
   ·exact hn hx
   ·omega)).trans (h.block k hk hn)⟩
theorem Keeps.frame (h : Keeps [] w w') (may : MemPlace → Prop) : w.keptBut w' may := by
 refine ⟨h.os, h.output, fun i hi => ?_⟩
 rw [h.block i hi (by simp)]
 split <;> simp_all
theorem Keeps.same (h : Keeps [] w w') {p : MemPlace} (hp : p.block < w.heap.size) : w.sameAt w' p := by
 cases p with
 | cell b o => exact World.cell?_of_block (w := w) (h.block b hp (by simp))
 | map b => exact h.block b hp (by simp)
theorem Keeps.of_below (h : Below w.heap.size w w') : Keeps L w w' := ⟨h.os, h.output, h.size, fun k hk _ => h.block k hk⟩
theorem Keeps.cell (h : Keeps L w w') {p : Addr} (hp : p.block < w.heap.size) (hn : p.block ∉ L) : w'.cell? p = w.cell? p :=
 World.cell?_of_block (h.block p.block hp hn)
theorem Keeps.frozen (h : Keeps L w w') {p : Addr} (hp : p.block < w.heap.size) (hn : p.block ∉ L) : w'.frozen? p = w.frozen? p :=
 World.frozen?_of_block (h.block p.block hp hn)
theorem Keeps.cell_of (h : Keeps L w w') {p : Addr} {v : Value} (hc : w.cell? p = some v) (hn : p.block ∉ L) : w'.cell? p = some v :=
 (h.cell (World.block_lt_of_cell? w p hc) hn).trans hc
end
def Blk (w : World) (g : Nat) (t : TypeId) (cs : Array Value) : Prop := w.heap[g]? = some (.cells cs t (0, 0))
section
variable {w w' : World} {g : Nat} {t : TypeId} {cs : Array Value}
theorem Blk.lt (h : Blk w g t cs) : g < w.heap.size := by
 rcases Nat.lt_or_ge g w.heap.size with hlt | hge
 ·exact hlt
 ·unfold Blk at h; rw [Array.getElem?_eq_none hge] at h; cases h
theorem Blk.cell (h : Blk w g t cs) (i : Nat) : w.cell? ⟨g, i, none⟩ = cs[i]? := cell_of_row w g i cs t (0, 0) h
theorem Blk.frozen (h : Blk w g t cs) (i : Nat) : w.frozen? ⟨g, i, none⟩ = false := by
 unfold Blk at h
 simp [World.frozen?, h]
theorem Blk.new (w : World) (t : TypeId) (cs : Array Value) : Blk (w.alloc (.cells cs t)) w.heap.size t cs := heap_alloc_new w _
theorem Blk.drew (h : Blk w g t cs) : Blk w.drew g t cs := h
theorem Blk.drewN (h : Blk w g t cs) (n : Nat) : Blk (w.drewN n) g t cs := h
theorem Blk.alloc (h : Blk w g t cs) (o : Obj) : Blk (w.alloc o) g t cs := (Below.heap_alloc w o g h.lt).trans h
theorem Blk.set (h : Blk w g t cs) (i : Nat) (u : Value) : Blk (w.setCell ⟨g, i, none⟩ u) g t (cs.setIfInBounds i u) := by
 unfold Blk at h ⊢
 simp [World.setCell, Array.getElem?_modify, h]
theorem Blk.far (h : Blk w g t cs) {p : Addr} (hp : g ≠ p.block) (u : Value) : Blk (w.setCell p u) g t cs := (Below.heap_setCell w p u g hp).trans h
theorem Blk.keep {L : List Nat} (h : Blk w g t cs) (hk : Keeps L w w') (hg : g ∉ L) : Blk w' g t cs := (hk.block g h.lt hg).trans h
theorem Blk.ne {g' : Nat} {t' : TypeId} {cs' : Array Value} (h : Blk w g t cs) (h' : Blk w g' t' cs') (hne : t ≠ t') : g ≠ g' := by
 rintro rfl
 unfold Blk at h h'
 rw [h] at h'
 injection h' with h'
 injection h' with _ ht
 exact hne ht
theorem Blk.congr {cs' : Array Value} (h : Blk w g t cs) (he : cs = cs') : Blk w g t cs' := he ▸ h
end
theorem block_add (a : Addr) (n : Nat) : (a.add n).block = a.block := by unfold Addr.add; split <;> rfl
theorem add_at (b o j : Nat) : (⟨b, o, none⟩ : Addr).add j = ⟨b, o + j, none⟩ := by
 unfold Addr.add
 split
 ·rename_i h; subst h; rfl
 ·rfl
def Rd (w : World) (L : List Nat) (size : Nat) (A : Option Addr) (n : Nat) (xs : List Value) : Prop :=
 xs.length = n * size ∧ (0 < n → ∃ ad, A = some ad ∧ ad.block ∉ L ∧ ad.block < w.heap.size ∧ ∀ j u, xs[j]? = some u → w.cell? (ad.add j) = some u)
section
variable {w w' : World} {L L' : List Nat} {size n : Nat} {A : Option Addr} {xs : List Value}
theorem Rd.nil : Rd w L size A 0 [] := ⟨by simp, fun h => absurd h (by omega)⟩
theorem Rd.keep (h : Rd w L size A n xs) (hk : Keeps L w w') : Rd w' L size A n xs :=
 ⟨h.1, fun hn => by
  obtain ⟨ad, e, hb, hl, hc⟩ := h.2 hn
  exact ⟨ad, e, hb, Nat.lt_of_lt_of_le hl hk.size, fun j u hu => (hk.cell (by rw [block_add]; exact hl) (by rw [block_add]; exact hb)).trans (hc j u hu)⟩⟩
theorem Rd.move (h : Rd w L size A n xs) (hL : ∀ x ∈ L', x < w.heap.size → x ∈ L) : Rd w L' size A n xs :=
 ⟨h.1, fun hn => by
  obtain ⟨ad, e, hb, hl, hc⟩ := h.2 hn
  exact ⟨ad, e, fun hm => hb (hL _ hm hl), hl, hc⟩⟩
theorem Rd.apart (h : Rd w L size A n xs) (hk : Keeps L w w') (hL : ∀ x ∈ L', w.heap.size ≤ x) : Rd w' L' size A n xs :=
 ⟨h.1, fun hn => by
  obtain ⟨ad, e, hb, hl, hc⟩ := h.2 hn
  exact ⟨ad, e, fun hm => by have := hL _ hm; omega, Nat.lt_of_lt_of_le hl hk.size, fun j u hu => (hk.cell (by rw [block_add]; exact hl) (by rw [block_add]; exact hb)).trans (hc j u hu)⟩⟩
theorem Rd.open' (h : Rd w L size A n xs) (hn : 0 < n) (hs : 0 < size) : ∃ b o, A = some ⟨b, o, none⟩ ∧ b ∉ L ∧ b < w.heap.size ∧ ∀ j u, xs[j]? = some u → w.cell? ⟨b, o + j, none⟩ = some u := by
 obtain ⟨⟨b, o, sp⟩, e, hb, hl, hc⟩ := h.2 hn
 have h0 : 0 < xs.length := by rw [h.1]; exact Nat.mul_pos hn hs
 have hsp := World.cell?_spot (hc 0 _ (List.getElem?_eq_getElem h0))
 have hsp' : sp = none := by simpa [Addr.add] using hsp
 subst hsp'
 refine ⟨b, o, e, hb, hl, fun j u hu => ?_⟩
 rw [← add_at]; exact hc j u hu
theorem Rd.of_own {base : Nat} {e : TypeId} {c : Nat} (h : w.ownsRow base e size (.slice A n c) n xs) (hL : ∀ g, (Value.slice A n c).ownBlock = some g → g ∉ L) : Rd w L size A n xs := by
 refine ⟨h.1, fun hn => ?_⟩
 obtain ⟨g, cap, hv, _, hlt⟩ := h.form hn
 have hA : A = some ⟨g, 0, none⟩ := by injection hv
 subst hA
 exact ⟨_, rfl, hL g rfl, hlt, h.cells (g := g) rfl⟩
end
theorem own_form {w : World} {base : Nat} {e : TypeId} {size n : Nat} {v : Value} {xs : List Value} (h : w.ownsRow base e size v n xs) :
  ∃ A c, v = .slice A n c ∧ (0 < n → ∃ g, A = some ⟨g, 0, none⟩ ∧ g < w.heap.size ∧ ∀ j u, xs[j]? = some u → w.cell? ⟨g, j, none⟩ = some u) := by
 rcases h.2 with ⟨rfl, rfl⟩ | ⟨g, cap, cur, rfl, hb, hh, r⟩
 ·exact ⟨none, 0, rfl, fun h => absurd h (by omega)⟩
 ·refine ⟨_, cap, rfl, fun _ => ⟨g, rfl, (Array.getElem?_eq_some_iff.1 hh).1, fun j u hu => ?_⟩⟩
  have := h.cells (g := g) rfl j u hu
  rwa [add_at, Nat.zero_add] at this
section
variable {w w' : World} {p : Addr} {v : Value}
theorem fld_alloc (h : w.cell? p = some v ∧ w.frozen? p = false) (o : Obj) : (w.alloc o).cell? p = some v ∧ (w.alloc o).frozen? p = false := by
 have hl := World.block_lt_of_cell? w p h.1
 exact ⟨(World.cell?_alloc_lt w o p hl).trans h.1, (World.frozen?_alloc_old w o p (Nat.ne_of_lt hl)).trans h.2⟩
theorem fld_keeps {L : List Nat} (hk : Keeps L w w') (h : w.cell? p = some v ∧ w.frozen? p = false) (hn : p.block ∉ L) : w'.cell? p = some v ∧ w'.frozen? p = false :=
 ⟨hk.cell_of h.1 hn, (hk.frozen (World.block_lt_of_cell? w p h.1) hn).trans h.2⟩
theorem fld_grown {row : Option Nat} (hg : w.grownBy w' row) (h : w.cell? p = some v ∧ w.frozen? p = false) (hn : row ≠ some p.block) : w'.cell? p = some v ∧ w'.frozen? p = false :=
 ⟨(hg.cell_far p (World.block_lt_of_cell? w p h.1) (Ne.symm hn)).trans h.1, (hg.frozen_far p (World.block_lt_of_cell? w p h.1) (Ne.symm hn)).trans h.2⟩
end
theorem own_keep {w w' : World} {L : List Nat} {base : Nat} {e : TypeId} {size : Nat} {v : Value} {n : Nat} {xs : List Value} (h : w.ownsRow base e size v n xs) (hk : Keeps L w w') (hL : ∀ g, v.ownBlock = some g → g ∉ L) : w'.ownsRow base e size v n xs := by
 refine ⟨h.1, ?_⟩
 rcases h.2 with h2 | ⟨g, cap, cur, rfl, hg, hh, r⟩
 ·exact .inl h2
 ·exact .inr ⟨g, cap, cur, rfl, hg, by rw [hk.block g (Array.getElem?_eq_some_iff.1 hh).1 (hL g rfl)]; exact hh, r⟩
end Go.Proofs.YtnjjajanfedjiaaGreatDoor
namespace Go.Proofs.YtnjjajanfedjiaaGreatDoor
open Go.RowKit
def downB (ops : Array Oper) : Bool := (List.range ops.size).all fun i => ((ops[i]?).map fun o => o.after.all fun e => decide (e.on < i)).getD false
theorem downB_at {ops : Array Oper} (h : downB ops = true) {i : Nat} {o : Oper} (ho : ops[i]? = some o) {e : Edge} (he : e ∈ o.after) : e.on < i := by
 have hi : i < ops.size := (Array.getElem?_eq_some_iff.1 ho).1
 have h1 := List.all_eq_true.1 h i (List.mem_range.2 hi)
 rw [ho] at h1
 simp only [Option.map_some, Option.getD_some, Array.all_eq_true_iff_forall_mem] at h1
 simpa using h1 e he
def leftN (L : Nat → Bool) (n : Nat) : Nat := (List.range n).countP fun i => !L i
theorem leftN_zero {L : Nat → Bool} {n : Nat} (h : leftN L n = 0) : ∀ i, i < n → L i = true := by
 intro i hi
 have h1 := List.countP_eq_zero.1 h i (List.mem_range.2 hi)
 simpa using h1
def updL (L : Nat → Bool) (i : Nat) : Nat → Bool := fun j => if j = i then true else L j
theorem leftN_upd {L : Nat → Bool} {i : Nat} (hL : L i = false) : ∀ {n : Nat}, i < n → leftN (updL L i) n + 1 = leftN L n
 | 0, h => absurd h (by omega)
 | n + 1, h => by
  have e : ∀ M : Nat → Bool, leftN M (n + 1) = leftN M n + if M n then 0 else 1 := fun M => by
   unfold leftN
   rw [List.range_succ, List.countP_append, List.countP_singleton]
   cases hm : M n <;> simp
  rw [e, e]
  by_cases hi : i = n
  ·subst hi
   have e2 : leftN (updL L i) i = leftN L i := by
    unfold leftN
    refine List.countP_congr fun x hx => ?_
    have := List.mem_range.1 hx
    unfold updL
    rw [if_neg (by omega)]
   rw [e2, hL]
   simp [updL]
  ·have ih := leftN_upd hL (n := n) (by omega)
   have e3 : updL L i n = L n := by unfold updL; rw [if_neg (fun h => hi h.symm)]
   rw [e3]
   omega
def Agrees (ops : Array Oper) (listed : Array Bool) (L : Nat → Bool) : Prop := listed.size = ops.size ∧ ∀ i, i < ops.size → listed[i]? = some (L i)
theorem Agrees.set {ops : Array Oper} {listed : Array Bool} {L : Nat → Bool} (h : Agrees ops listed L) {i : Nat} (_hi : i < ops.size) : Agrees ops (listed.setIfInBounds i true) (updL L i) := by
 refine ⟨by rw [Array.size_setIfInBounds]; exact h.1, fun j hj => ?_⟩
 rw [Array.getElem?_setIfInBounds]
 unfold updL
 by_cases hij : i = j
 ·subst hij
  rw [if_pos rfl, if_pos (by rw [h.1]; exact hj), if_pos rfl]
 ·rw [if_neg hij, if_neg (fun e => hij e.symm)]
  exact h.2 j hj
theorem Agrees.get {ops : Array Oper} {listed : Array Bool} {L : Nat → Bool} (h : Agrees ops listed L) {i : Nat} (hi : i < ops.size) (d : Bool) : listed.getD i d = L i := by
 have := h.2 i hi
 rw [Array.getD_eq_getD_getElem?, this]
 rfl
theorem ready_iff {ops : Array Oper} {listed : Array Bool} {L : Nat → Bool} (hd : downB ops = true) (h : Agrees ops listed L) (i : Nat) :
  i ∈ Region.ready .any ops listed ↔ i < ops.size ∧ L i = false ∧ ∀ o, ops[i]? = some o → ∀ e ∈ o.after, Region.binds .any e = true → L e.on = true := by
 unfold Region.ready
 rw [List.mem_filter, List.mem_range]
 constructor
 ·rintro ⟨h1, h2⟩
  rw [Bool.and_eq_true, h.get h1] at h2
  refine ⟨h1, by simpa using h2.1, fun o ho e he hb => ?_⟩
  have h3 := h2.2
  rw [ho] at h3
  simp only [Option.map_some, Option.getD_some, Array.all_eq_true_iff_forall_mem] at h3
  have h4 := h3 e he
  rw [hb, Bool.not_true, Bool.false_or, h.get (by have := downB_at hd ho he; omega)] at h4
  exact h4
 ·rintro ⟨h1, h2, h3⟩
  refine ⟨h1, ?_⟩
  rw [Bool.and_eq_true, h.get h1, h2]
  refine ⟨rfl, ?_⟩
  obtain ⟨o, ho⟩ : ∃ o, ops[i]? = some o := ⟨_, Array.getElem?_eq_getElem h1⟩
  rw [ho]
  simp only [Option.map_some, Option.getD_some, Array.all_eq_true_iff_forall_mem]
  intro e he
  cases hb : Region.binds .any e with
  | false => rfl
  | true =>
   rw [Bool.not_true, Bool.false_or, h.get (by have := downB_at hd ho he; omega)]
   exact h3 o ho e he hb
theorem some_ready {ops : Array Oper} {L : Nat → Bool} (hd : downB ops = true) : ∀ (i : Nat), i < ops.size → L i = false → ∃ j, j < ops.size ∧ L j = false ∧ ∀ o, ops[j]? = some o → ∀ e ∈ o.after, Region.binds .any e = true → L e.on = true := by
 intro i
 induction i using Nat.strongRecOn with
 | ind i ih =>
  intro hi hL
  by_cases hx : ∃ o, ops[i]? = some o ∧ ∃ e ∈ o.after, Region.binds .any e = true ∧ L e.on = false
  ·obtain ⟨o, ho, e, he, _, hf⟩ := hx
   have hlt := downB_at hd ho he
   exact ih e.on hlt (by omega) hf
  ·refine ⟨i, hi, hL, fun o ho e he hb => ?_⟩
   cases hl : L e.on with
   | true => rfl
   | false => exact absurd ⟨o, ho, e, he, hb, hl⟩ hx
section
variable {P : Program} {ops : Array Oper} {Q : Exit → Act → World → Prop}
theorem wpAny_inv (hd : downB ops = true) (I : (Nat → Bool) → Act → World → Prop)
  (hs : ∀ i, i < ops.size → ∀ L a w, L i = false → (∀ o, ops[i]? = some o → ∀ e ∈ o.after, Region.binds .any e = true → L e.on = true) → I L a w → wpOp P ops Q i (I (updL L i)) a w)
  (hf : ∀ L a w, (∀ i, i < ops.size → L i = true) → I L a w → Q .normal a w) :
  ∀ (fuel : Nat) (listed : Array Bool) (L : Nat → Bool) (a : Act) (w : World), Agrees ops listed L → leftN L ops.size ≤ fuel → I L a w → wpAny P .any ops Q fuel listed a w
 | 0, listed, L, a, w, hA, hn, hI => by
  have hall := leftN_zero (Nat.le_zero.1 hn)
  refine ⟨List.eq_nil_iff_forall_not_mem.2 fun i hi => ?_, hf L a w hall hI⟩
  have := (ready_iff hd hA i).1 hi
  rw [hall i this.1] at this
  exact absurd this.2.1 (by decide)
 | fuel + 1, listed, L, a, w, hA, hn, hI => by
  refine ⟨fun hr => hf L a w (fun i hi => ?_) hI, fun i hi => ?_⟩
  ·cases hl : L i with
   | true => rfl
   | false =>
    obtain ⟨j, hj⟩ := some_ready hd i hi hl
    have := (ready_iff hd hA j).2 hj
    rw [hr] at this
    cases this
  ·obtain ⟨h1, h2, h3⟩ := (ready_iff hd hA i).1 hi
   have hc := leftN_upd h2 h1
   exact wpOp_mono (fun a' w' h => wpAny_inv hd I hs hf fuel _ (updL L i) a' w' (hA.set h1) (by omega) h) (hs i h1 L a w h2 h3 hI)
theorem wp_region_inv {id : Nat} {a : Act} {w : World} (hm : P.follows .mixedOrders = true) (hd : downB ops = true) (I : (Nat → Bool) → Act → World → Prop)
  (h0 : I (fun _ => false) a w.drew)
  (hs : ∀ i, i < ops.size → ∀ L a w, L i = false → (∀ o, ops[i]? = some o → ∀ e ∈ o.after, Region.binds .any e = true → L e.on = true) → I L a w → wpOp P ops Q i (I (updL L i)) a w)
  (hf : ∀ L a w, (∀ i, i < ops.size → L i = true) → I L a w → Q .normal a w) : (Code.region id ops true).wp P Q a w := by
 refine wp_region_any hm (wpAny_inv hd I hs hf ops.size _ (fun _ => false) a _ ⟨by simp, fun i hi => by simp [hi]⟩ ?_ h0)
 unfold leftN
 refine Nat.le_trans List.countP_le_length (by simp)
theorem wpOp_val {i : Nat} {o : Oper} {a : Act} {w w' : World} {u : Value} {K : Act → World → Prop} (ho : ops[i]? = some o) (hg : o.guard = none) (hr : (execOp a.eval o).run P w = .ok (.value u) w') (hK : K (a.put o.dst u) w') : wpOp P ops Q i K a w := by
 unfold wpOp
 simp only [ho]
 rw [if_pos (by unfold Region.wanted; rw [hg])]
 left
 unfold Oper.wp
 rw [hr]
 exact hK
theorem wpOp_skip {i : Nat} {o : Oper} {a : Act} {w w' : World} {K : Act → World → Prop} (ho : ops[i]? = some o) (hg : o.guard = none) (hr : (execOp a.eval o).run P w = .ok .skip w') (hK : K (a.put o.dst undef) w') : wpOp P ops Q i K a w := by
 unfold wpOp
 simp only [ho]
 rw [if_pos (by unfold Region.wanted; rw [hg])]
 left
 unfold Oper.wp
 rw [hr]
 exact hK
theorem wpOp_wp {i : Nat} {o : Oper} {a : Act} {w : World} {K : Act → World → Prop} (ho : ops[i]? = some o) (hg : o.guard = none) (h : o.wp P a w K Q) : wpOp P ops Q i K a w := by
 unfold wpOp
 simp only [ho]
 rw [if_pos (by unfold Region.wanted; rw [hg])]
 exact .inl h
theorem wpOp_call {i : Nat} {o : Oper} {a : Act} {w : World} {f : FuncId} {args : Array Value} {K : Act → World → Prop} (ho : ops[i]? = some o) (hg : o.guard = none) (hr : (execOp a.eval o).run P w = .ok (.enter f args) w) (hK : Calls P f args w fun e w' => ∃ u, e = .returned u ∧ K (a.put o.dst u) w') : wpOp P ops Q i K a w := by
 unfold wpOp
 simp only [ho]
 rw [if_pos (by unfold Region.wanted; rw [hg])]
 left
 unfold Oper.wp
 rw [hr]
 exact hK.mono fun e w' ⟨u, he, hk⟩ => by subst he; exact hk
end
structure FitR (ops : Array Oper) (v : Nat → Value) (L : Nat → Bool) (a0 a : Act) : Prop where
 d : a.defers = a0.defers
 n : a.tmps.size = a0.tmps.size
 y : ∀ i o k, ops[i]? = some o → o.dst = some k → L i = true → a.tmps.getD k undef = v i
 z : ∀ k, (∀ i o, ops[i]? = some o → o.dst = some k → L i = false) → a.tmps.getD k undef = a0.tmps.getD k undef
def dstB (ops : Array Oper) (n : Nat) : Bool := (List.range ops.size).all fun i => match (ops[i]?).bind (·.dst) with
 | none => true
 | some k => decide (k < n) && (List.range ops.size).all fun j => decide (j = i) || decide ((ops[j]?).bind (·.dst) ≠ some k)
theorem dstB_at {ops : Array Oper} {n : Nat} (h : dstB ops n = true) {i : Nat} {o : Oper} {k : Nat} (ho : ops[i]? = some o) (hk : o.dst = some k) : k < n ∧ ∀ j o', ops[j]? = some o' → o'.dst = some k → j = i := by
 have hi : i < ops.size := (Array.getElem?_eq_some_iff.1 ho).1
 have h1 := List.all_eq_true.1 h i (List.mem_range.2 hi)
 simp only [ho, Option.bind_some, hk] at h1
 rw [Bool.and_eq_true] at h1
 refine ⟨of_decide_eq_true h1.1, fun j o' hj hk' => ?_⟩
 have hj' : j < ops.size := (Array.getElem?_eq_some_iff.1 hj).1
 have h2 := List.all_eq_true.1 h1.2 j (List.mem_range.2 hj')
 simp only [hj, Option.bind_some, hk'] at h2
 simpa using h2
theorem getD_put (t : Array Value) (d k : Nat) (u x : Value) (hd : d < t.size) : (t.setIfInBounds d u).getD k x = if k = d then u else t.getD k x := by
 rw [Array.getD_eq_getD_getElem?, Array.getD_eq_getD_getElem?, Array.getElem?_setIfInBounds]
 by_cases h : d = k
 ·subst h
  rw [if_pos rfl, if_pos hd, if_pos rfl]
  rfl
 ·rw [if_neg h, if_neg (fun e => h e.symm)]
theorem FitR.start (ops : Array Oper) (v : Nat → Value) (a : Act) : FitR ops v (fun _ => false) a a := ⟨rfl, rfl, (fun _ _ _ _ _ h => by cases h), fun _ _ => rfl⟩
theorem FitR.put {ops : Array Oper} {v : Nat → Value} {L : Nat → Bool} {a0 a : Act} {i : Nat} {o : Oper} (h : FitR ops v L a0 a) (hb : dstB ops a0.tmps.size = true) (ho : ops[i]? = some o) : FitR ops v (updL L i) a0 (a.put o.dst (v i)) := by
 cases hd : o.dst with
 | none =>
  refine ⟨h.d, h.n, fun j o' k hj hk hL => ?_, fun k hz => ?_⟩
  ·refine h.y j o' k hj hk ?_
   unfold updL at hL
   split at hL
   ·rename_i e
    subst e
    rw [ho] at hj
    cases hj
    rw [hd] at hk
    cases hk
   ·exact hL
  ·refine h.z k fun j o' hj hk => ?_
   have := hz j o' hj hk
   unfold updL at this
   split at this
   ·cases this
   ·exact this
 | some k0 =>
  obtain ⟨hk0, huniq⟩ := dstB_at hb ho hd
  have hput : (a.put (some k0) (v i)).tmps = a.tmps.setIfInBounds k0 (v i) := rfl
  refine ⟨h.d, by rw [hput, Array.size_setIfInBounds]; exact h.n, fun j o' k hj hk hL => ?_, fun k hz => ?_⟩
  ·rw [hput, getD_put _ _ _ _ _ (by rw [h.n]; exact hk0)]
   by_cases hkk : k = k0
   ·subst hkk
    rw [if_pos rfl, huniq j o' hj hk]
   ·rw [if_neg hkk]
    refine h.y j o' k hj hk ?_
    unfold updL at hL
    split at hL
    ·rename_i e
     subst e
     rw [ho] at hj
     cases hj
     rw [hd] at hk
     cases hk
     exact absurd rfl hkk
    ·exact hL
  ·rw [hput, getD_put _ _ _ _ _ (by rw [h.n]; exact hk0)]
   by_cases hkk : k = k0
   ·have := hz i o ho (by rw [hkk]; exact hd)
    unfold updL at this
    rw [if_pos rfl] at this
    cases this
   ·rw [if_neg hkk]
    refine h.z k fun j o' hj hk => ?_
    have := hz j o' hj hk
    unfold updL at this
    split at this
    ·cases this
    ·exact this
theorem FitR.old {ops : Array Oper} {v : Nat → Value} {L : Nat → Bool} {a0 a : Act} (h : FitR ops v L a0 a) (k : Nat) (hk : (ops.any fun o => decide (o.dst = some k)) = false) : a.tmps.getD k undef = a0.tmps.getD k undef :=
 h.z k fun i o ho hd => by
  rw [Array.any_eq_false'] at hk
  exact absurd (decide_eq_true hd) (hk o (Array.mem_of_getElem? ho))
theorem FitR.congr {ops : Array Oper} {v v' : Nat → Value} {L : Nat → Bool} {a0 a : Act} (h : FitR ops v L a0 a) (e : ∀ i, L i = true → v i = v' i) : FitR ops v' L a0 a :=
 ⟨h.d, h.n, fun i o k ho hk hL => (h.y i o k ho hk hL).trans (e i hL), h.z⟩
def finT (ops : Array Oper) (v : Nat → Value) (a0 : Act) (k : Nat) : Value := match (List.range ops.size).find? fun i => decide ((ops[i]?).bind (·.dst) = some k) with
 | some i => v i
 | none => a0.tmps.getD k undef
theorem FitR.fin {ops : Array Oper} {v : Nat → Value} {L : Nat → Bool} {a0 a : Act} (h : FitR ops v L a0 a) (hall : ∀ i, i < ops.size → L i = true) : a = ⟨((List.range a0.tmps.size).map (finT ops v a0)).toArray, a0.defers⟩ := by
 obtain ⟨t, d⟩ := a
 have hd : d = a0.defers := h.d
 have hn : t.size = a0.tmps.size := h.n
 subst hd
 congr 1
 apply Array.ext
 ·simp [hn]
 ·intro k h1 h2
  simp only [List.getElem_toArray, List.getElem_map, List.getElem_range]
  have e : t[k] = t.getD k undef := by rw [Array.getD_eq_getD_getElem?, Array.getElem?_eq_getElem h1]; rfl
  rw [e]
  unfold finT
  cases hf : (List.range ops.size).find? fun i => decide ((ops[i]?).bind (·.dst) = some k) with
  | some i =>
   have h3 := List.find?_some hf
   have hi := List.mem_range.1 (List.mem_of_find?_eq_some hf)
   rw [decide_eq_true_iff] at h3
   obtain ⟨o, ho⟩ : ∃ o, ops[i]? = some o := ⟨_, Array.getElem?_eq_getElem hi⟩
   rw [ho, Option.bind_some] at h3
   exact h.y i o k ho h3 (hall i hi)
  | none =>
   refine h.z k fun i o ho hd => ?_
   have hi : i < ops.size := (Array.getElem?_eq_some_iff.1 ho).1
   have := List.find?_eq_none.1 hf i (List.mem_range.2 hi)
   rw [ho, Option.bind_some, hd] at this
   simp at this
def depB (ops : Array Oper) (i j : Nat) : Bool := ((ops[i]?).map fun o => o.after.any fun e => decide (e.on = j) && Region.binds .any e).getD false
theorem dep_at {ops : Array Oper} {L : Nat → Bool} {i : Nat} (h : ∀ o, ops[i]? = some o → ∀ e ∈ o.after, Region.binds .any e = true → L e.on = true) (j : Nat) (hj : depB ops i j = true) : L j = true := by
 unfold depB at hj
 cases ho : ops[i]? with
 | none => rw [ho] at hj; cases hj
 | some o =>
  rw [ho] at hj
  simp only [Option.map_some, Option.getD_some] at hj
  obtain ⟨e, he, h2⟩ := Array.any_eq_true'.1 hj
  rw [Bool.and_eq_true, decide_eq_true_iff] at h2
  have := h o ho e he h2.2
  rwa [h2.1] at this
def AllC (C : Nat → Prop) : Nat → Prop
 | 0 => True
 | n + 1 => AllC C n ∧ C n
theorem AllC.at {C : Nat → Prop} : ∀ {n : Nat}, AllC C n → ∀ i, i < n → C i
 | 0, _, i, hi => absurd hi (by omega)
 | n + 1, h, i, hi => by
  by_cases e : i = n
  ·subst e; exact h.2
  ·exact AllC.at h.1 i (by omega)
def StepC {G : Type} (P : Program) (ops : Array Oper) (Q : Exit → Act → World → Prop) (v : G → Nat → Value) (Wd : G → (Nat → Bool) → World → Prop) (a0 : Act) (i : Nat) : Prop :=
 dstB ops a0.tmps.size = true → ∀ g L a w, L i = false → (∀ j, depB ops i j = true → L j = true) → FitR ops (v g) L a0 a → Wd g L w → wpOp P ops Q i (fun a' w' => ∃ g', FitR ops (v g') (updL L i) a0 a' ∧ Wd g' (updL L i) w') a w
theorem wp_region_fit {G : Type} {P : Program} {ops : Array Oper} {Q : Exit → Act → World → Prop} {id : Nat} {a : Act} {w : World} (hm : P.follows .mixedOrders = true) (hd : downB ops = true) (hb : dstB ops a.tmps.size = true) (v : G → Nat → Value) (Wd : G → (Nat → Bool) → World → Prop)
  (h0 : ∃ g, Wd g (fun _ => false) w.drew) (hs : AllC (StepC P ops Q v Wd a) ops.size)
  (hf : ∀ g L w', (∀ i, i < ops.size → L i = true) → Wd g L w' → Q .normal ⟨((List.range a.tmps.size).map (finT ops (v g) a)).toArray, a.defers⟩ w') : (Code.region id ops true).wp P Q a w := by
 obtain ⟨g0, h0⟩ := h0
 refine wp_region_inv hm hd (fun L a' w' => ∃ g, FitR ops (v g) L a a' ∧ Wd g L w') ⟨g0, FitR.start ops (v g0) a, h0⟩ ?_ ?_
 ·rintro i hi L a' w' hL hdep ⟨g, hF, hW⟩
  exact hs.at i hi hb g L a' w' hL (dep_at hdep) hF hW
 ·rintro L a' w' hall ⟨g, hF, hW⟩
  rw [hF.fin hall]
  exact hf g L w' hall hW
theorem fit_val {G : Type} {P : Program} {ops : Array Oper} {Q : Exit → Act → World → Prop} {v : G → Nat → Value} {Wd : G → (Nat → Bool) → World → Prop} {a0 a : Act} {w : World} {i : Nat} {g : G} {L : Nat → Bool} {o : Oper} (ho : ops[i]? = some o) (hb : dstB ops a0.tmps.size = true) (hg : o.guard = none) (hF : FitR ops (v g) L a0 a) (hW : Wd g (updL L i) w)
  (hr : (execOp a.eval o).run P w = .ok (.value (v g i)) w) : wpOp P ops Q i (fun a' w' => ∃ g', FitR ops (v g') (updL L i) a0 a' ∧ Wd g' (updL L i) w') a w := wpOp_val ho hg hr ⟨g, hF.put hb ho, hW⟩
end Go.Proofs.YtnjjajanfedjiaaGreatDoor
namespace Go.Proofs.YtnjjajanfedjiaaGreatDoor
structure Vl where
 kind : Int
 num : Int
 word : Bs
deriving DecidableEq
structure Cl where
 name : Bs
 kind : Int
deriving DecidableEq
structure Tb where
 cols : List Cl
 rows : List (List Vl)
deriving DecidableEq
def letters : Bs := [97, 98, 99, 100, 101, 102, 103, 104, 105, 106, 107, 108, 109, 110, 111, 112, 113, 114, 115, 116, 117, 118, 119, 120, 121, 122]
def lettersDigits : Bs := letters ++ [48, 49, 50, 51, 52, 53, 54, 55, 56, 57]
def nameB (s : Bs) : Bool := !s.isEmpty && decide (s.length ≤ 10) && letters.contains (s.getD 0 0) && s.all (lettersDigits.contains ·)
def badB (b : UInt8) : Bool := decide (b.toNat < 32) || decide (126 < b.toNat) || decide (b.toNat = 39)
def rvB (v : Vl) : Bool :=
 if v.kind = 1 then (v.word == []) && decide (-1000000000 ≤ v.num) && decide (v.num ≤ 1000000000)
 else if v.kind = 2 then decide (v.num = 0) && decide (v.word.length ≤ 16) && !v.word.any badB
 else false
def okCol (l : List Cl) (i : Nat) : Bool := match l[i]? with
 | some c => nameB c.name && (decide (c.kind = 1) || decide (c.kind = 2)) && !((l.take i).any fun d => d.name == c.name)
 | none => true
def colsB (l : List Cl) : Bool := decide (1 ≤ l.length) && decide (l.length ≤ 6) && (List.range l.length).all (okCol l)
def kindW (j : Nat) : Bs := match j with | 1 => [105, 110, 116] | 2 => [116, 101, 120, 116] | _ => []
def numOk (n : Int) : Prop := -9223372036854775808 ≤ n ∧ n ≤ 9223372036854775807
end Go.Proofs.YtnjjajanfedjiaaGreatDoor
