/- Words for memory: what a call keeps of the world, slices that read as lists outside a footprint, blocks that are known whole, strings as lists of bytes. No program in sight. Tables as plain data: what may be, how it is written, how it is read. No program in sight. Tables as plain data: what is written is read again, and what is read is written so. No program in sight. -/
import Derived.WalkKit
import Derived.WalkLawsBesides
import Derived.BigQuiet
import Derived.Deep.QuietTactic
import Derived.Deep.RegionHeld3
import Derived.Deep.AppendLies
import Derived.Deep.DrawnRows
import Derived.Deep.LoopGhost
import Derived.Lib.Hide
import Derived.Deep.RegionLaw
import Derived.Deep.RegionWith
import Derived.StillTailTactics
import Derived.Laws.BytesString
import Derived.Lib.ItoaLen
import Derived.Lib.AtoiAll
namespace Go.Proofs.YtbhejdljekmohaaGreatDoor
open Go.RowKit

/-! ### Strings as lists of bytes -/
/-- Bytes. -/
abbrev Bs := List UInt8
/-- A list of bytes as the model's string. -/
def bs (l : Bs) : ByteArray := ⟨l.toArray⟩
theorem bs_data (s : ByteArray) : bs s.data.toList = s := rfl
theorem bs_size (l : Bs) : (bs l).size = l.length := by simp [bs, ByteArray.size]
theorem bs_inj {a b : Bs} (h : bs a = bs b) : a = b := by
  unfold bs at h
  injection h with h
  simpa using congrArg Array.toList h
theorem bs_nil : bs [] = ⟨#[]⟩ := rfl
theorem bs_toList (l : Bs) : (bs l).toList = l := by rw [ByteArray.toList_eq]; simp [bs]
theorem bs_append (a b : Bs) : bs a ++ bs b = bs (a ++ b) := by
  apply ByteArray.ext
  rw [ByteArray.data_append]
  simp [bs]
theorem bs_extract (l : Bs) (a b : Nat) : (bs l).extract a b = bs ((l.take b).drop a) := by
  apply ByteArray.ext
  rw [ByteArray.data_extract]
  simp [bs, List.drop_take]
theorem bs_get (l : Bs) (i : Nat) (h : i < (bs l).size) : (bs l)[i] = l[i]'(by rw [bs_size] at h; exact h) := rfl

/-! ### What a call keeps -/
/-- w' is w, with new blocks and with other contents of blocks in L alone. -/
structure Keeps (L : List Nat) (w w' : World) : Prop where
  os : w'.os = w.os
  output : w'.output = w.output
  size : w.heap.size ≤ w'.heap.size
  block : ∀ k, k < w.heap.size → k ∉ L → w'.heap[k]? = w.heap[k]?

section
variable {L L' : List Nat} {a w w' w'' : World}
theorem Keeps.refl (L : List Nat) (w : World) : Keeps L w w := ⟨rfl, rfl, Nat.le_refl _, fun _ _ _ => rfl⟩
theorem Keeps.trans' (h : Keeps L w w') (k : Keeps L' w' w'') (hL : ∀ x ∈ L', x < w.heap.size → x ∈ L) : Keeps L w w'' :=
  ⟨k.os.trans h.os, k.output.trans h.output, Nat.le_trans h.size k.size, fun i hi hn =>
    (k.block i (Nat.lt_of_lt_of_le hi h.size) (fun hm => hn (hL i hm hi))).trans (h.block i hi hn)⟩
theorem Keeps.trans (h : Keeps L w w') (k : Keeps L w' w'') : Keeps L w w'' := h.trans' k fun _ hx _ => hx
theorem Keeps.weaken (h : Keeps L w w') (hL : ∀ x ∈ L, x < w.heap.size → x ∈ L') : Keeps L' w w' :=
  ⟨h.os, h.output, h.size, fun k hk hn => h.block k hk fun hm => hn (hL k hm hk)⟩
theorem Keeps.of_nil (h : Keeps [] w w') : Keeps L w w' := h.weaken (by simp)
theorem Keeps.drew (h : Keeps L a w) : Keeps L a w.drew := ⟨h.os, h.output, h.size, h.block⟩
theorem Keeps.drewN (h : Keeps L a w) (n : Nat) : Keeps L a (w.drewN n) := ⟨h.os, h.output, h.size, h.block⟩
theorem Keeps.alloc (h : Keeps L a w) (o : Obj) : Keeps L a (w.alloc o) :=
  ⟨h.os, h.output, Nat.le_trans h.size (by simp), fun k hk hn => (Below.heap_alloc w o k (Nat.lt_of_lt_of_le hk h.size)).trans (h.block k hk hn)⟩
theorem Keeps.setCell (h : Keeps L a w) {p : Addr} (hp : p.block ∈ L ∨ a.heap.size ≤ p.block) (u : Value) : Keeps L a (w.setCell p u) :=
  ⟨h.os, h.output, by simpa [World.setCell] using h.size, fun k hk hn => (Below.heap_setCell w p u k (by
    rintro rfl
    rcases hp with hp | hp
    · exact hn hp
    · omega)).trans (h.block k hk hn)⟩
theorem Keeps.grown (h : Keeps L a w) {row : Option Nat} (hg : w.grownBy w' row) (hr : ∀ g, row = some g → g ∈ L ∨ a.heap.size ≤ g) : Keeps L a w' :=
  ⟨hg.os.trans h.os, hg.output.trans h.output, Nat.le_trans h.size hg.size, fun k hk hn =>
    (hg.block k (Nat.lt_of_lt_of_le hk h.size) (by
      intro he
      rcases hr k he.symm with hx | hx
      · exact hn hx
      · omega)).trans (h.block k hk hn)⟩
/-- Of what was there nothing has turned. -/
theorem Keeps.frame (h : Keeps [] w w') (may : MemPlace → Prop) : w.keptBut w' may := by
  refine ⟨h.os, h.output, fun i hi => ?_⟩
  rw [h.block i hi (by simp)]
  split <;> simp_all
theorem Keeps.same (h : Keeps [] w w') {p : MemPlace} (hp : p.block < w.heap.size) : w.sameAt w' p := by
  cases p with
  | cell b o => exact World.cell?_of_block (w := w) (h.block b hp (by simp))
  | map b => exact h.block b hp (by simp)
theorem Keeps.of_below (h : Below w.heap.size w w') : Keeps L w w' := ⟨h.os, h.output, h.size, fun k hk _ => h.block k hk⟩
theorem Keeps.cell (h : Keeps L w w') {p : Addr} (hp : p.block < w.heap.size) (hn : p.block ∉ L) : w'.cell? p = w.cell? p :=
  World.cell?_of_block (h.block p.block hp hn)
theorem Keeps.frozen (h : Keeps L w w') {p : Addr} (hp : p.block < w.heap.size) (hn : p.block ∉ L) : w'.frozen? p = w.frozen? p :=
  World.frozen?_of_block (h.block p.block hp hn)
theorem Keeps.cell_of (h : Keeps L w w') {p : Addr} {v : Value} (hc : w.cell? p = some v) (hn : p.block ∉ L) : w'.cell? p = some v :=
  (h.cell (World.block_lt_of_cell? w p hc) hn).trans hc
end

/-! ### A block that is known whole -/
/-- Block g is just the cells cs, of element type t, none frozen. -/
def Blk (w : World) (g : Nat) (t : TypeId) (cs : Array Value) : Prop := w.heap[g]? = some (.cells cs t (0, 0))
section
variable {w w' : World} {g : Nat} {t : TypeId} {cs : Array Value}
theorem Blk.lt (h : Blk w g t cs) : g < w.heap.size := by
  rcases Nat.lt_or_ge g w.heap.size with hlt | hge
  · exact hlt
  · unfold Blk at h; rw [Array.getElem?_eq_none hge] at h; cases h
theorem Blk.cell (h : Blk w g t cs) (i : Nat) : w.cell? ⟨g, i, none⟩ = cs[i]? := cell_of_row w g i cs t (0, 0) h
theorem Blk.frozen (h : Blk w g t cs) (i : Nat) : w.frozen? ⟨g, i, none⟩ = false := by
  unfold Blk at h
  simp [World.frozen?, h]
theorem Blk.new (w : World) (t : TypeId) (cs : Array Value) : Blk (w.alloc (.cells cs t)) w.heap.size t cs := heap_alloc_new w _
theorem Blk.drew (h : Blk w g t cs) : Blk w.drew g t cs := h
theorem Blk.drewN (h : Blk w g t cs) (n : Nat) : Blk (w.drewN n) g t cs := h
theorem Blk.alloc (h : Blk w g t cs) (o : Obj) : Blk (w.alloc o) g t cs := (Below.heap_alloc w o g h.lt).trans h
theorem Blk.set (h : Blk w g t cs) (i : Nat) (u : Value) : Blk (w.setCell ⟨g, i, none⟩ u) g t (cs.setIfInBounds i u) := by
  unfold Blk at h ⊢
  simp [World.setCell, Array.getElem?_modify, h]
theorem Blk.far (h : Blk w g t cs) {p : Addr} (hp : g ≠ p.block) (u : Value) : Blk (w.setCell p u) g t cs := (Below.heap_setCell w p u g hp).trans h
theorem Blk.keep {L : List Nat} (h : Blk w g t cs) (hk : Keeps L w w') (hg : g ∉ L) : Blk w' g t cs := (hk.block g h.lt hg).trans h
theorem Blk.ne {g' : Nat} {t' : TypeId} {cs' : Array Value} (h : Blk w g t cs) (h' : Blk w g' t' cs') (hne : t ≠ t') : g ≠ g' := by
  rintro rfl
  unfold Blk at h h'
  rw [h] at h'
  injection h' with h'
  injection h' with _ ht
  exact hne ht
theorem Blk.congr {cs' : Array Value} (h : Blk w g t cs) (he : cs = cs') : Blk w g t cs' := he ▸ h
end

/-! ### A slice that reads as a list, outside a footprint -/
theorem block_add (a : Addr) (n : Nat) : (a.add n).block = a.block := by unfold Addr.add; split <;> rfl
theorem add_add (a : Addr) (i j : Nat) : (a.add i).add j = a.add (i + j) := by
  unfold Addr.add
  by_cases hi : i = 0 <;> by_cases hj : j = 0 <;> simp [hi, hj, Nat.add_assoc]
theorem add_at (b o j : Nat) : (⟨b, o, none⟩ : Addr).add j = ⟨b, o + j, none⟩ := by
  unfold Addr.add
  split
  · rename_i h; subst h; rfl
  · rfl

/-- The slice of address A and n elements (of 'size' cells each) holds the cells xs, in a block that is not in L. -/
def Rd (w : World) (L : List Nat) (size : Nat) (A : Option Addr) (n : Nat) (xs : List Value) : Prop :=
  xs.length = n * size ∧ (0 < n → ∃ ad, A = some ad ∧ ad.block ∉ L ∧ ad.block < w.heap.size ∧ ∀ j u, xs[j]? = some u → w.cell? (ad.add j) = some u)
section
variable {w w' : World} {L L' : List Nat} {size n : Nat} {A : Option Addr} {xs : List Value}
theorem Rd.nil : Rd w L size A 0 [] := ⟨by simp, fun h => absurd h (by omega)⟩
theorem Rd.keep (h : Rd w L size A n xs) (hk : Keeps L w w') : Rd w' L size A n xs :=
  ⟨h.1, fun hn => by
    obtain ⟨ad, e, hb, hl, hc⟩ := h.2 hn
    exact ⟨ad, e, hb, Nat.lt_of_lt_of_le hl hk.size, fun j u hu => (hk.cell (by rw [block_add]; exact hl) (by rw [block_add]; exact hb)).trans (hc j u hu)⟩⟩
theorem Rd.move (h : Rd w L size A n xs) (hL : ∀ x ∈ L', x < w.heap.size → x ∈ L) : Rd w L' size A n xs :=
  ⟨h.1, fun hn => by
    obtain ⟨ad, e, hb, hl, hc⟩ := h.2 hn
    exact ⟨ad, e, fun hm => hb (hL _ hm hl), hl, hc⟩⟩
theorem Rd.apart (h : Rd w L size A n xs) (hk : Keeps L w w') (hL : ∀ x ∈ L', w.heap.size ≤ x) : Rd w' L' size A n xs :=
  ⟨h.1, fun hn => by
    obtain ⟨ad, e, hb, hl, hc⟩ := h.2 hn
    exact ⟨ad, e, fun hm => by have := hL _ hm; omega, Nat.lt_of_lt_of_le hl hk.size, fun j u hu => (hk.cell (by rw [block_add]; exact hl) (by rw [block_add]; exact hb)).trans (hc j u hu)⟩⟩
theorem Rd.at' {k : Nat} (h : Rd w L 1 A n xs) (hk : k < n) : ∃ ad u, A = some ad ∧ ad.block ∉ L ∧ ad.block < w.heap.size ∧ xs[k]? = some u ∧ w.cell? (ad.add k) = some u := by
  obtain ⟨ad, e, hb, hl, hc⟩ := h.2 (by omega)
  have hl' : k < xs.length := by have := h.1; omega
  exact ⟨ad, xs[k], e, hb, hl, List.getElem?_eq_getElem hl', hc k _ (List.getElem?_eq_getElem hl')⟩
theorem Rd.open' (h : Rd w L size A n xs) (hn : 0 < n) (hs : 0 < size) : ∃ b o, A = some ⟨b, o, none⟩ ∧ b ∉ L ∧ b < w.heap.size ∧ ∀ j u, xs[j]? = some u → w.cell? ⟨b, o + j, none⟩ = some u := by
  obtain ⟨⟨b, o, sp⟩, e, hb, hl, hc⟩ := h.2 hn
  have h0 : 0 < xs.length := by rw [h.1]; exact Nat.mul_pos hn hs
  have hsp := World.cell?_spot (hc 0 _ (List.getElem?_eq_getElem h0))
  have hsp' : sp = none := by simpa [Addr.add] using hsp
  subst hsp'
  refine ⟨b, o, e, hb, hl, fun j u hu => ?_⟩
  rw [← add_at]; exact hc j u hu
theorem Rd.of_own {base : Nat} {e : TypeId} {c : Nat} (h : w.ownsRow base e size (.slice A n c) n xs) (hL : ∀ g, (Value.slice A n c).ownBlock = some g → g ∉ L) : Rd w L size A n xs := by
  refine ⟨h.1, fun hn => ?_⟩
  obtain ⟨g, cap, hv, _, hlt⟩ := h.form hn
  have hA : A = some ⟨g, 0, none⟩ := by injection hv
  subst hA
  exact ⟨_, rfl, hL g rfl, hlt, h.cells (g := g) rfl⟩
end

/-- What a value looks like that owns n elements. -/
theorem own_form {w : World} {base : Nat} {e : TypeId} {size n : Nat} {v : Value} {xs : List Value} (h : w.ownsRow base e size v n xs) :
    ∃ A c, v = .slice A n c ∧ (0 < n → ∃ g, A = some ⟨g, 0, none⟩ ∧ g < w.heap.size ∧ ∀ j u, xs[j]? = some u → w.cell? ⟨g, j, none⟩ = some u) := by
  rcases h.2 with ⟨rfl, rfl⟩ | ⟨g, cap, cur, rfl, hb, hh, r⟩
  · exact ⟨none, 0, rfl, fun h => absurd h (by omega)⟩
  · refine ⟨_, cap, rfl, fun _ => ⟨g, rfl, (Array.getElem?_eq_some_iff.1 hh).1, fun j u hu => ?_⟩⟩
    have := h.cells (g := g) rfl j u hu
    rwa [add_at, Nat.zero_add] at this

/-! ### A cell and its mark, from world to world -/
section
variable {w w' : World} {p : Addr} {v : Value}
theorem fld_alloc (h : w.cell? p = some v ∧ w.frozen? p = false) (o : Obj) : (w.alloc o).cell? p = some v ∧ (w.alloc o).frozen? p = false := by
  have hl := World.block_lt_of_cell? w p h.1
  exact ⟨(World.cell?_alloc_lt w o p hl).trans h.1, (World.frozen?_alloc_old w o p (Nat.ne_of_lt hl)).trans h.2⟩
theorem fld_keeps {L : List Nat} (hk : Keeps L w w') (h : w.cell? p = some v ∧ w.frozen? p = false) (hn : p.block ∉ L) : w'.cell? p = some v ∧ w'.frozen? p = false :=
  ⟨hk.cell_of h.1 hn, (hk.frozen (World.block_lt_of_cell? w p h.1) hn).trans h.2⟩
theorem fld_grown {row : Option Nat} (hg : w.grownBy w' row) (h : w.cell? p = some v ∧ w.frozen? p = false) (hn : row ≠ some p.block) : w'.cell? p = some v ∧ w'.frozen? p = false :=
  ⟨(hg.cell_far p (World.block_lt_of_cell? w p h.1) (Ne.symm hn)).trans h.1, (hg.frozen_far p (World.block_lt_of_cell? w p h.1) (Ne.symm hn)).trans h.2⟩
theorem fld_drew (h : w.cell? p = some v ∧ w.frozen? p = false) : w.drew.cell? p = some v ∧ w.drew.frozen? p = false := h
end

/-- What is owned outside L stays owned. -/
theorem own_keep {w w' : World} {L : List Nat} {base : Nat} {e : TypeId} {size : Nat} {v : Value} {n : Nat} {xs : List Value} (h : w.ownsRow base e size v n xs) (hk : Keeps L w w') (hL : ∀ g, v.ownBlock = some g → g ∉ L) : w'.ownsRow base e size v n xs := by
  refine ⟨h.1, ?_⟩
  rcases h.2 with h2 | ⟨g, cap, cur, rfl, hg, hh, r⟩
  · exact .inl h2
  · exact .inr ⟨g, cap, cur, rfl, hg, by rw [hk.block g (Array.getElem?_eq_some_iff.1 hh).1 (hL g rfl)]; exact hh, r⟩
end Go.Proofs.YtbhejdljekmohaaGreatDoor
namespace Go.Proofs.YtbhejdljekmohaaGreatDoor
/-- A value; a column; a table. -/
structure Vl where
  kind : Int
  num : Int
  word : Bs
deriving DecidableEq
structure Cl where
  name : Bs
  kind : Int
deriving DecidableEq
structure Tb where
  cols : List Cl
  rows : List (List Vl)
deriving DecidableEq
def letters : Bs := [97, 98, 99, 100, 101, 102, 103, 104, 105, 106, 107, 108, 109, 110, 111, 112, 113, 114, 115, 116, 117, 118, 119, 120, 121, 122]
def lettersDigits : Bs := letters ++ [48, 49, 50, 51, 52, 53, 54, 55, 56, 57]
/-- Whether something may be called so. -/
def nameB (s : Bs) : Bool := !s.isEmpty && decide (s.length ≤ 10) && letters.contains (s.getD 0 0) && s.all (lettersDigits.contains ·)
/-- A byte that may not stand in a text. -/
def badB (b : UInt8) : Bool := decide (b.toNat < 32) || decide (126 < b.toNat) || decide (b.toNat = 39)
/-- Whether a value may be. -/
def rvB (v : Vl) : Bool :=
  if v.kind = 1 then (v.word == []) && decide (-1000000000 ≤ v.num) && decide (v.num ≤ 1000000000)
  else if v.kind = 2 then decide (v.num = 0) && decide (v.word.length ≤ 16) && !v.word.any badB
  else false
/-- Whether a value is ahead of another one. -/
def lessB (a b : Vl) : Bool := if a.kind = b.kind then (if a.kind = 1 then decide (a.num < b.num) else Op.bytesLess a.word b.word) else decide (a.kind < b.kind)
/-- Whether column i may stand there. -/
def okCol (l : List Cl) (i : Nat) : Bool := match l[i]? with
  | some c => nameB c.name && (decide (c.kind = 1) || decide (c.kind = 2)) && !((l.take i).any fun d => d.name == c.name)
  | none => true
/-- Whether columns may be. -/
def colsB (l : List Cl) : Bool := decide (1 ≤ l.length) && decide (l.length ≤ 6) && (List.range l.length).all (okCol l)
/-- Whether value i of a row may stand there; a row; a table. -/
def okAt (cs : List Cl) (r : List Vl) (i : Nat) : Bool := match r[i]?, cs[i]? with
  | some v, some c => decide (v.kind = c.kind) && rvB v
  | _, _ => true
def rowB (cs : List Cl) (r : List Vl) : Bool := decide (r.length = cs.length) && (List.range r.length).all (okAt cs r)
def rightB (t : Tb) : Bool := colsB t.cols && decide (t.rows.length ≤ 60) && t.rows.all (rowB t.cols)
/-- A kind's word. -/
def kindW (j : Nat) : Bs := match j with | 1 => [105, 110, 116] | 2 => [116, 101, 120, 116] | _ => []
/-- A value as text. -/
def valueL (v : Vl) : Bs := if v.kind = 1 then Lib.itoa v.num else [39] ++ v.word ++ [39]
def numOk (n : Int) : Prop := -9223372036854775808 ≤ n ∧ n ≤ 9223372036854775807
/-- Columns as text, the first k of them; a row; rows; a table. -/
def colsT (l : List Cl) : Nat → Bs
  | 0 => []
  | k + 1 => colsT l k ++ (if k = 0 then [] else [32]) ++ (match l[k]? with | some c => c.name ++ [58] ++ kindW c.kind.toNat | none => [])
def rowT (r : List Vl) : Nat → Bs
  | 0 => []
  | k + 1 => rowT r k ++ (if k = 0 then [] else [32]) ++ (match r[k]? with | some v => valueL v | none => [])
def rowsT (rs : List (List Vl)) : Nat → Bs
  | 0 => []
  | k + 1 => rowsT rs k ++ (match rs[k]? with | some r => rowT r r.length ++ [10] | none => [])
def printL (t : Tb) : Bs := colsT t.cols t.cols.length ++ [10] ++ rowsT t.rows t.rows.length
/-- The kind that a word names; 0 for none. -/
def kix (k : Bs) : Nat := if k = [105, 110, 116] then 1 else if k = [116, 101, 120, 116] then 2 else 0
def splitC (c : UInt8) : Bs → List Bs
  | [] => [[]]
  | b :: l => if b = c then [] :: splitC c l else match splitC c l with
    | h :: t => (b :: h) :: t
    | [] => [[b]]
def cutC (c : UInt8) : Bs → Bs × Bs
  | [] => ([], [])
  | b :: l => if b = c then ([], l) else (b :: (cutC c l).1, (cutC c l).2)
/-- What has been cut off of the first k bytes; where the next piece begins; whether a text is open. -/
def cutS (s : Bs) : Nat → List Bs × Nat × Bool
  | 0 => ([], 0, false)
  | k + 1 =>
    let r := cutS s k
    if s.getD k 0 = 39 then (r.1, r.2.1, !r.2.2)
    else if s.getD k 0 = 32 && !r.2.2 then (r.1 ++ [(s.take k).drop r.2.1], k + 1, r.2.2)
    else r
def cutL (s : Bs) : List Bs := (cutS s s.length).1 ++ [s.drop (cutS s s.length).2.1]
def quoted (s : Bs) : Bool := decide (2 ≤ s.length) && decide (s.getD 0 0 = 39) && decide (s.getD (s.length - 1) 0 = 39)
def pv0 (s : Bs) : Option Vl :=
  if quoted s then some ⟨2, 0, (s.take (s.length - 1)).drop 1⟩
  else match Lib.atoiAll s with
    | .ok n => if Lib.itoa n = s then some ⟨1, n, []⟩ else none
    | _ => none
/-- The value that a text is, or none. -/
def pvL (s : Bs) : Option Vl := match pv0 s with
  | some v => if rvB v then some v else none
  | none => none
/-- What Parse makes: a table, or an error at a line. -/
inductive PR
  | ok (t : Tb)
  | bad (e : Int) (at_ : Nat)
def colP (u : Bs) : Cl := ⟨(cutC 58 u).1, kix (cutC 58 u).2⟩
def valsP : List Bs → List Vl → Option (List Vl)
  | [], a => some a
  | p :: ps, a => match pvL p with
    | none => none
    | some v => valsP ps (a ++ [v])
def fits (cols : List Cl) (r : List Vl) : Bool := decide (r.length = cols.length) && (r.zip cols).all fun p => p.1.kind == p.2.kind
def lineL (cols : List Cl) (l : Bs) : Option (List Vl) := match valsP (cutL l) [] with
  | none => none
  | some r => if fits cols r then some r else none
def linesP (cols : List Cl) : List Bs → Nat → List (List Vl) → PR
  | [], i, _ => .bad 3 i
  | l :: rest, i, acc => if rest = [] ∧ l = [] then .ok ⟨cols, acc⟩ else match lineL cols l with
    | none => .bad 3 (i + 1)
    | some r => if acc.length = 60 then .bad 4 (i + 1) else linesP cols rest (i + 1) (acc ++ [r])
def colsP (l : Bs) : List Cl := (splitC 32 l).map colP
def parseL (s : Bs) : PR := if colsB (colsP ((splitC 10 s).headD [])) then linesP (colsP ((splitC 10 s).headD [])) (splitC 10 s).tail 0 [] else .bad 3 0
end Go.Proofs.YtbhejdljekmohaaGreatDoor
namespace Go.Proofs.YtbhejdljekmohaaGreatDoor
/-! ### Pieces and what joins them -/
def joinC (c : UInt8) : List Bs → Bs
  | [] => []
  | [a] => a
  | a :: b :: t => a ++ c :: joinC c (b :: t)
theorem joinC_cons (c : UInt8) (a : Bs) {l : List Bs} (h : l ≠ []) : joinC c (a :: l) = a ++ c :: joinC c l := by
  cases l with
  | nil => exact absurd rfl h
  | cons b t => rfl
theorem joinC_snoc (c : UInt8) (x : Bs) : ∀ {l : List Bs}, l ≠ [] → joinC c (l ++ [x]) = joinC c l ++ c :: x
  | [], h => absurd rfl h
  | [a], _ => rfl
  | a :: b :: t, _ => by
    have ih := joinC_snoc c x (l := b :: t) (by simp)
    rw [List.cons_append, joinC_cons c a (by simp), joinC_cons c a (by simp), ih]
    simp
/-- A list's first piece, longer by what stands ahead. -/
def preH (p : Bs) : List Bs → List Bs
  | [] => [p]
  | h :: t => (p ++ h) :: t
theorem preH_ne (p : Bs) (l : List Bs) : preH p l ≠ [] := by cases l <;> simp [preH]
theorem preH_preH (p r : Bs) (l : List Bs) : preH p (preH r l) = preH (p ++ r) l := by cases l <;> simp [preH]
theorem preH_nil {l : List Bs} (h : l ≠ []) : preH [] l = l := by
  cases l with
  | nil => exact absurd rfl h
  | cons => rfl
theorem joinC_preH (c : UInt8) (p : Bs) {l : List Bs} (h : l ≠ []) : joinC c (preH p l) = p ++ joinC c l := by
  match l, h with
  | [], h => exact absurd rfl h
  | [a], _ => rfl
  | a :: b :: t, _ => simp [preH, joinC]
theorem splitC_nonnil (c : UInt8) : ∀ s : Bs, splitC c s ≠ []
  | [] => by simp [splitC]
  | b :: l => by
    unfold splitC
    split
    · simp
    · split <;> simp
theorem splitC_cons (c b : UInt8) (l : Bs) : splitC c (b :: l) = if b = c then [] :: splitC c l else preH [b] (splitC c l) := by
  conv => lhs; unfold splitC
  split
  · rfl
  · split
    · rename_i h t he; rw [he]; rfl
    · rename_i he; exact absurd he (splitC_nonnil c l)
theorem join_split (c : UInt8) : ∀ s : Bs, joinC c (splitC c s) = s
  | [] => rfl
  | b :: l => by
    have ih := join_split c l
    rw [splitC_cons]
    split
    · rename_i h
      rw [joinC_cons c [] (splitC_nonnil c l), ih, h]
      rfl
    · rw [joinC_preH c [b] (splitC_nonnil c l), ih]
      rfl
theorem splitC_free (c : UInt8) : ∀ s : Bs, ∀ u ∈ splitC c s, c ∉ u
  | [], u, hu => by simp [splitC] at hu; rw [hu]; simp
  | b :: l, u, hu => by
    have ih := splitC_free c l
    rw [splitC_cons] at hu
    split at hu
    · rcases List.mem_cons.1 hu with rfl | hu
      · simp
      · exact ih u hu
    · rename_i hb
      cases hs : splitC c l with
      | nil => exact absurd hs (splitC_nonnil c l)
      | cons h t =>
        rw [hs] at hu
        simp only [preH] at hu
        rcases List.mem_cons.1 hu with rfl | hu
        · have := ih h (by rw [hs]; exact List.mem_cons_self ..)
          simp [this, Ne.symm hb]
        · exact ih u (by rw [hs]; exact List.mem_cons_of_mem _ hu)
theorem splitC_app (c : UInt8) (r : Bs) : ∀ p : Bs, c ∉ p → splitC c (p ++ r) = preH p (splitC c r)
  | [], _ => (preH_nil (splitC_nonnil c r)).symm
  | b :: p, h => by
    have ih := splitC_app c r p (fun hm => h (List.mem_cons_of_mem _ hm))
    have hb : b ≠ c := fun e => h (by rw [e]; exact List.mem_cons_self ..)
    rw [List.cons_append, splitC_cons, if_neg hb, ih, preH_preH]
    rfl
theorem split_join (c : UInt8) : ∀ {l : List Bs}, l ≠ [] → (∀ u ∈ l, c ∉ u) → splitC c (joinC c l) = l
  | [], h, _ => absurd rfl h
  | [a], _, hf => by
    have := splitC_app c [] a (hf a (List.mem_cons_self ..))
    rw [List.append_nil] at this
    show splitC c a = _
    rw [this]
    simp [splitC, preH]
  | a :: b :: t, _, hf => by
    have ih := split_join c (l := b :: t) (by simp) (fun u hu => hf u (List.mem_cons_of_mem _ hu))
    rw [joinC_cons c a (by simp), splitC_app c _ a (hf a (List.mem_cons_self ..)), splitC_cons, if_pos rfl, ih]
    simp [preH]
theorem cutC_miss (c : UInt8) : ∀ s : Bs, c ∉ s → cutC c s = (s, [])
  | [], _ => rfl
  | b :: l, h => by
    have hb : b ≠ c := fun e => h (by rw [e]; exact List.mem_cons_self ..)
    unfold cutC
    rw [if_neg hb, cutC_miss c l (fun hm => h (List.mem_cons_of_mem _ hm))]
theorem cutC_hit (c : UInt8) (r : Bs) : ∀ p : Bs, c ∉ p → cutC c (p ++ c :: r) = (p, r)
  | [], _ => by simp [cutC]
  | b :: p, h => by
    have hb : b ≠ c := fun e => h (by rw [e]; exact List.mem_cons_self ..)
    rw [List.cons_append]
    unfold cutC
    rw [if_neg hb, cutC_hit c r p (fun hm => h (List.mem_cons_of_mem _ hm))]
theorem cutC_eq' (c : UInt8) : ∀ s : Bs, c ∈ s → s = (cutC c s).1 ++ c :: (cutC c s).2
  | [], h => by cases h
  | b :: l, h => by
    unfold cutC
    by_cases hb : b = c
    · rw [if_pos hb, hb]; rfl
    · rw [if_neg hb]
      have := cutC_eq' c l (by rcases List.mem_cons.1 h with e | h; exact absurd e.symm hb; exact h)
      simp only [List.cons_append]
      rw [← this]
/-! ### A line cut at blanks that stand in no text -/
def cutR : Bool → Bs → List Bs
  | _, [] => [[]]
  | q, b :: l => if b = 39 then preH [b] (cutR (!q) l) else if b = 32 && !q then [] :: cutR q l else preH [b] (cutR q l)
theorem cutR_ne (q : Bool) (l : Bs) : cutR q l ≠ [] := by
  cases l with
  | nil => simp [cutR]
  | cons b l =>
    unfold cutR
    split
    · exact preH_ne _ _
    · split
      · simp
      · exact preH_ne _ _
theorem cut_gen (s : Bs) : ∀ (m k : Nat), k + m = s.length → ∀ o f q, cutS s k = (o, f, q) → f ≤ k → cutL s = o ++ preH ((s.take k).drop f) (cutR q (s.drop k))
  | 0, k, hk, o, f, q, hc, hf => by
    obtain rfl : k = s.length := by omega
    unfold cutL
    rw [hc, List.drop_length, List.take_length]
    simp [cutR, preH]
  | m + 1, k, hk, o, f, q, hc, hf => by
    have hlt : k < s.length := by omega
    have hg : s.getD k 0 = s[k] := by rw [List.getD_eq_getElem?_getD, List.getElem?_eq_getElem hlt]; rfl
    have hd : s.drop k = s[k] :: s.drop (k + 1) := List.drop_eq_getElem_cons hlt
    have ht : (s.take (k + 1)).drop f = (s.take k).drop f ++ [s[k]] := by
      rw [List.take_succ_eq_append_getElem hlt, List.drop_append_of_le_length (by rw [List.length_take]; omega)]
    have hs : cutS s (k + 1) = (if s[k] = 39 then (o, f, !q) else if s[k] = 32 && !q then (o ++ [(s.take k).drop f], k + 1, q) else (o, f, q)) := by
      conv => lhs; unfold cutS
      rw [hc, hg]
    rw [hd]
    unfold cutR
    by_cases h39 : s[k] = 39
    · rw [if_pos h39] at hs ⊢
      rw [cut_gen s m (k + 1) (by omega) _ _ _ hs (by omega), ht, preH_preH]
    · rw [if_neg h39] at hs ⊢
      by_cases h32 : (s[k] = 32 && !q) = true
      · rw [if_pos h32] at hs ⊢
        rw [cut_gen s m (k + 1) (by omega) _ _ _ hs (by omega)]
        have e : (s.take (k + 1)).drop (k + 1) = [] := List.drop_of_length_le (by rw [List.length_take]; omega)
        rw [e, preH_nil (cutR_ne _ _)]
        simp [preH]
      · rw [if_neg h32] at hs ⊢
        rw [cut_gen s m (k + 1) (by omega) _ _ _ hs (by omega), ht, preH_preH]
theorem cutL_eq (s : Bs) : cutL s = cutR false s := by
  rw [cut_gen s s.length 0 (by omega) [] 0 false rfl (Nat.le_refl _)]
  simp [preH_nil (cutR_ne _ _)]
theorem join_cutR : ∀ (s : Bs) (q : Bool), joinC 32 (cutR q s) = s
  | [], _ => rfl
  | b :: l, q => by
    unfold cutR
    split
    · rw [joinC_preH 32 [b] (cutR_ne _ _), join_cutR l]; rfl
    · split
      · rename_i h
        have hb : b = 32 := by simp at h; exact h.1
        rw [joinC_cons 32 [] (cutR_ne _ _), join_cutR l, hb]; rfl
      · rw [joinC_preH 32 [b] (cutR_ne _ _), join_cutR l]; rfl
/-- A piece that is cut nowhere. -/
def Whole (p : Bs) : Prop := ∀ r, cutR false (p ++ r) = preH p (cutR false r)
theorem whole_plain : ∀ {p : Bs}, (∀ b ∈ p, b ≠ 39 ∧ b ≠ 32) → Whole p
  | [], _ => fun r => (preH_nil (cutR_ne _ _)).symm
  | b :: p, h => fun r => by
    have hb := h b (List.mem_cons_self ..)
    have ih := whole_plain (p := p) (fun x hx => h x (List.mem_cons_of_mem _ hx)) r
    rw [List.cons_append]
    conv => lhs; unfold cutR
    rw [if_neg hb.1, if_neg (by simp [hb.2]), ih, preH_preH]
    rfl
theorem cutR_open (r : Bs) : ∀ w : Bs, (39 : UInt8) ∉ w → cutR true (w ++ 39 :: r) = preH (w ++ [39]) (cutR false r)
  | [], _ => by
    show cutR true (39 :: r) = _
    conv => lhs; unfold cutR
    rw [if_pos rfl]; rfl
  | b :: w, h => by
    have hb : b ≠ 39 := fun e => h (by rw [e]; exact List.mem_cons_self ..)
    rw [List.cons_append]
    conv => lhs; unfold cutR
    rw [if_neg hb, if_neg (by simp), cutR_open r w (fun hm => h (List.mem_cons_of_mem _ hm)), preH_preH]
    rfl
theorem whole_quoted {w : Bs} (h : (39 : UInt8) ∉ w) : Whole ([39] ++ w ++ [39]) := fun r => by
  have e : [39] ++ w ++ [39] ++ r = 39 :: (w ++ 39 :: r) := by simp
  rw [e]
  conv => lhs; unfold cutR
  rw [if_pos rfl]
  show preH [39] (cutR true _) = _
  rw [cutR_open r w h, preH_preH]
  simp
theorem cut_join : ∀ {l : List Bs}, l ≠ [] → (∀ u ∈ l, Whole u) → cutR false (joinC 32 l) = l
  | [], h, _ => absurd rfl h
  | [a], _, hf => by
    have := hf a (List.mem_cons_self ..) []
    rw [List.append_nil] at this
    show cutR false a = _
    rw [this]
    simp [cutR, preH]
  | a :: b :: t, _, hf => by
    have ih := cut_join (l := b :: t) (by simp) (fun u hu => hf u (List.mem_cons_of_mem _ hu))
    rw [joinC_cons 32 a (by simp), hf a (List.mem_cons_self ..)]
    conv => lhs; unfold cutR
    rw [if_neg (by decide), if_pos (by decide), ih]
    simp [preH]
/-! ### Numbers -/
theorem dec_digit (u : Nat) : ∀ b ∈ Lib.decDigits u, 48 ≤ b.toNat ∧ b.toNat ≤ 57 := by
  induction u using Nat.strongRecOn with
  | _ u ih =>
    intro b hb
    rw [Lib.decDigits] at hb
    split at hb
    · rw [List.mem_singleton] at hb
      subst hb
      rw [UInt8.toNat_ofNat']
      omega
    · rw [List.mem_append, List.mem_singleton] at hb
      rcases hb with hb | rfl
      · exact ih (u / 10) (by omega) b hb
      · rw [UInt8.toNat_ofNat']
        omega
theorem dec_ne (u : Nat) : Lib.decDigits u ≠ [] := by
  rw [Lib.decDigits]
  split <;> simp
theorem parse_snoc (d : UInt8) (hd : 48 ≤ d.toNat ∧ d.toNat ≤ 57) : ∀ (l : Bs) (a v : Nat), Lib.parseUint10 a l = .ok v → v < 1844674407370955161 → Lib.parseUint10 a (l ++ [d]) = .ok (v * 10 + (d.toNat - 48))
  | [], a, v, h, hv => by
    simp only [Lib.parseUint10] at h
    injection h with h
    subst h
    simp only [List.nil_append, Lib.parseUint10]
    rw [if_pos hd, if_neg (by omega), if_neg (by omega)]
  | c :: l, a, v, h, hv => by
    simp only [List.cons_append, Lib.parseUint10] at h ⊢
    split at h
    · rename_i h1
      rw [if_pos h1]
      split at h
      · cases h
      · rename_i h2
        rw [if_neg h2]
        split at h
        · cases h
        · rename_i h3
          rw [if_neg h3]
          exact parse_snoc d hd l _ v h hv
    · cases h
theorem parse_dec (u : Nat) (h : u < 18446744073709551610) : Lib.parseUint10 0 (Lib.decDigits u) = .ok u := by
  induction u using Nat.strongRecOn with
  | _ u ih =>
    rw [Lib.decDigits]
    split
    · simp only [Lib.parseUint10]
      have e : (UInt8.ofNat (48 + u)).toNat = 48 + u := by rw [UInt8.toNat_ofNat']; omega
      rw [e, if_pos (by omega), if_neg (by omega), if_neg (by omega)]
      congr 1
      omega
    · have e : (UInt8.ofNat (48 + u % 10)).toNat = 48 + u % 10 := by rw [UInt8.toNat_ofNat']; omega
      rw [parse_snoc _ (by rw [e]; omega) _ 0 (u / 10) (ih (u / 10) (by omega) (by omega)) (by omega), e]
      congr 1
      omega
theorem itoa_byte (n : Int) : ∀ b ∈ Lib.itoa n, b = 45 ∨ (48 ≤ b.toNat ∧ b.toNat ≤ 57) := fun b hb => by
  unfold Lib.itoa at hb
  split at hb
  · rcases List.mem_cons.1 hb with rfl | hb
    · exact .inl rfl
    · exact .inr (dec_digit _ b hb)
  · exact .inr (dec_digit _ b hb)
theorem itoa_ne (n : Int) : Lib.itoa n ≠ [] := by
  unfold Lib.itoa
  split
  · simp
  · exact dec_ne _
theorem atoi_itoa (n : Int) (h : numOk n) : Lib.atoiAll (Lib.itoa n) = .ok n := by
  unfold numOk at h
  unfold Lib.itoa
  split
  · rename_i hn
    have hp := parse_dec n.natAbs (by omega)
    simp only [Lib.atoiAll]
    rw [if_pos (by decide)]
    unfold Lib.parseMag
    rw [if_neg (dec_ne _), hp]
    simp only
    rw [if_neg (by simp), if_neg (by omega)]
    have e45 : (45 : UInt8).toNat = 45 := rfl
    rw [if_pos e45]
    congr 1
    omega
  · rename_i hn
    have hp := parse_dec n.toNat (by omega)
    cases hd : Lib.decDigits n.toNat with
    | nil => exact absurd hd (dec_ne _)
    | cons c r =>
      have hc := dec_digit n.toNat c (by rw [hd]; exact List.mem_cons_self ..)
      rw [hd] at hp
      simp only [Lib.atoiAll]
      rw [if_neg (by omega)]
      unfold Lib.parseMag
      rw [if_neg (by simp), hp]
      simp only
      rw [if_neg (by omega), if_neg (by omega), if_neg (by omega)]
      congr 1
      omega
theorem itoa_inj {n m : Int} (hn : numOk n) (hm : numOk m) (h : Lib.itoa n = Lib.itoa m) : n = m := by
  have h1 := atoi_itoa n hn
  rw [h, atoi_itoa m hm] at h1
  injection h1 with h1
  exact h1.symm
/-! ### Values -/
theorem rvB_int {v : Vl} (h : rvB v = true) (hk : v.kind = 1) : v.word = [] ∧ -1000000000 ≤ v.num ∧ v.num ≤ 1000000000 := by
  unfold rvB at h
  rw [if_pos hk] at h
  simpa [and_assoc] using h
theorem rvB_text {v : Vl} (h : rvB v = true) (hk : v.kind ≠ 1) : v.kind = 2 ∧ v.num = 0 ∧ v.word.length ≤ 16 ∧ ∀ b ∈ v.word, badB b = false := by
  unfold rvB at h
  rw [if_neg hk] at h
  split at h
  · rename_i h2
    simp only [Bool.and_eq_true, decide_eq_true_eq, Bool.not_eq_true', List.any_eq_false] at h
    exact ⟨h2, h.1.1, h.1.2, fun b hb => by simpa using h.2 b hb⟩
  · cases h
theorem badB_39 : badB 39 = true := by decide
theorem badB_10 : badB 10 = true := by decide
theorem not_in_word {v : Vl} (h : rvB v = true) {b : UInt8} (hb : badB b = true) : b ∉ v.word := fun hm => by
  by_cases hk : v.kind = 1
  · rw [(rvB_int h hk).1] at hm; cases hm
  · have := (rvB_text h hk).2.2.2 b hm
    rw [hb] at this
    cases this
theorem value_whole {v : Vl} (h : rvB v = true) : Whole (valueL v) := by
  unfold valueL
  split
  · refine whole_plain fun b hb => ?_
    rcases itoa_byte _ b hb with rfl | h2
    · decide
    · constructor
      · rintro rfl; exact absurd h2.1 (by decide)
      · rintro rfl; exact absurd h2.1 (by decide)
  · exact whole_quoted (not_in_word h badB_39)
theorem value_free {v : Vl} (h : rvB v = true) : (10 : UInt8) ∉ valueL v := by
  unfold valueL
  split
  · intro hb
    rcases itoa_byte _ _ hb with h2 | h2
    · exact absurd h2 (by decide)
    · exact absurd h2.1 (by decide)
  · have := not_in_word h badB_10
    simp [this]
theorem quoted_itoa (n : Int) : quoted (Lib.itoa n) = false := by
  unfold quoted
  cases hi : Lib.itoa n with
  | nil => rfl
  | cons b l =>
    have hb := itoa_byte n b (by rw [hi]; exact List.mem_cons_self ..)
    have : b ≠ 39 := by
      rcases hb with rfl | h2
      · decide
      · rintro rfl; exact absurd h2.1 (by decide)
    simp [this]
theorem quoted_text (w : Bs) : quoted ([39] ++ w ++ [39]) = true := by
  unfold quoted
  simp
theorem unquote (w : Bs) : (([39] ++ w ++ [39] : Bs).take (([39] ++ w ++ [39] : Bs).length - 1)).drop 1 = w := by
  simp
theorem pvL_value {v : Vl} (h : rvB v = true) : pvL (valueL v) = some v := by
  unfold pvL pv0 valueL
  by_cases hk : v.kind = 1
  · have h1 := rvB_int h hk
    rw [if_pos hk, quoted_itoa, if_neg (by simp), atoi_itoa _ ⟨by omega, by omega⟩]
    simp only
    have e : (⟨1, v.num, []⟩ : Vl) = v := by
      obtain ⟨k, n, w⟩ := v
      simp only at hk h1
      rw [hk, h1.1]
    simp only [if_true]
    rw [e, if_pos h]
  · have h1 := rvB_text h hk
    rw [if_neg hk, quoted_text, if_pos rfl, unquote]
    have e : (⟨2, 0, v.word⟩ : Vl) = v := by
      obtain ⟨k, n, w⟩ := v
      simp only at h1
      rw [h1.1, h1.2.1]
    simp only
    rw [e, if_pos h]
theorem quoted_eq {s : Bs} (h : quoted s = true) : s = [39] ++ (s.take (s.length - 1)).drop 1 ++ [39] := by
  unfold quoted at h
  simp only [Bool.and_eq_true, decide_eq_true_eq] at h
  obtain ⟨⟨h2, h0⟩, h1⟩ := h
  match s, h2, h0, h1 with
  | [], h2, _, _ => simp at h2
  | [_], h2, _, _ => simp at h2
  | a :: b :: t, _, h0, h1 =>
    simp at h0
    subst h0
    obtain ⟨l, x, e⟩ : ∃ l x, b :: t = l ++ [x] := ⟨(b :: t).dropLast, (b :: t).getLast (by simp), (List.dropLast_concat_getLast (by simp)).symm⟩
    rw [e] at h1 ⊢
    simp at h1
    subst h1
    simp
theorem pvL_some {s : Bs} {v : Vl} (h : pvL s = some v) : valueL v = s ∧ rvB v = true := by
  unfold pvL at h
  split at h
  · rename_i u hu
    split at h
    · rename_i hr
      injection h with h
      subst h
      refine ⟨?_, hr⟩
      unfold pv0 at hu
      split at hu
      · rename_i hq
        injection hu with hu
        subst hu
        unfold valueL
        rw [if_neg (by simp)]
        exact (quoted_eq hq).symm
      · split at hu
        · split at hu
          · rename_i he
            injection hu with hu
            subst hu
            unfold valueL
            rw [if_pos rfl]
            exact he
          · cases hu
        · cases hu
    · cases h
  · cases h
/-! ### Rows -/
def rowText (r : List Vl) : Bs := joinC 32 (r.map valueL)
theorem rowT_join (r : List Vl) : ∀ k, k ≤ r.length → rowT r k = joinC 32 ((r.take k).map valueL)
  | 0, _ => by simp [rowT, joinC]
  | k + 1, h => by
    have ih := rowT_join r k (by omega)
    unfold rowT
    rw [ih, List.getElem?_eq_getElem (by omega), List.take_succ_eq_append_getElem (by omega), List.map_append]
    cases k with
    | zero => simp [joinC]
    | succ k =>
      rw [if_neg (by omega), List.map_singleton, joinC_snoc]
      · simp
      · cases r with
        | nil => simp at h
        | cons a r => simp
theorem rowT_all (r : List Vl) : rowT r r.length = rowText r := by
  rw [rowT_join r r.length (Nat.le_refl _), List.take_length]; rfl
theorem valsP_spec : ∀ (ps : List Bs) (a r : List Vl), valsP ps a = some r ↔ ∃ q, r = a ++ q ∧ q.map valueL = ps ∧ ∀ v ∈ q, rvB v = true
  | [], a, r => by
    simp only [valsP, Option.some.injEq]
    constructor
    · rintro rfl; exact ⟨[], by simp⟩
    · rintro ⟨q, rfl, hq, _⟩
      have : q = [] := by simpa using hq
      simp [this]
  | p :: ps, a, r => by
    simp only [valsP]
    cases hp : pvL p with
    | none =>
      simp only
      constructor
      · intro h; cases h
      · rintro ⟨q, _, hq, hv⟩
        cases q with
        | nil => simp at hq
        | cons v q =>
          simp at hq
          have := pvL_value (hv v (List.mem_cons_self ..))
          rw [hq.1, hp] at this
          cases this
    | some v =>
      simp only
      rw [valsP_spec ps (a ++ [v]) r]
      have hv := pvL_some hp
      constructor
      · rintro ⟨q, rfl, hq, hr⟩
        refine ⟨v :: q, by simp, by simp [hv.1, hq], fun x hx => ?_⟩
        rcases List.mem_cons.1 hx with rfl | hx
        · exact hv.2
        · exact hr x hx
      · rintro ⟨q, rfl, hq, hr⟩
        cases q with
        | nil => simp at hq
        | cons u q =>
          simp at hq
          have := pvL_value (hr u (List.mem_cons_self ..))
          rw [hq.1, hp] at this
          injection this with this
          subst this
          exact ⟨q, by simp, hq.2, fun x hx => hr x (List.mem_cons_of_mem _ hx)⟩
theorem rowB_iff {cs : List Cl} {r : List Vl} : rowB cs r = true ↔ fits cs r = true ∧ ∀ v ∈ r, rvB v = true := by
  unfold rowB fits
  simp only [Bool.and_eq_true, decide_eq_true_eq, List.all_eq_true]
  constructor
  · rintro ⟨h1, h2⟩
    refine ⟨⟨h1, fun p hp => ?_⟩, fun v hv => ?_⟩
    · obtain ⟨i, hi, rfl⟩ := List.getElem_of_mem hp
      have hi' : i < r.length := by rw [List.length_zip] at hi; omega
      have := h2 i (List.mem_range.2 hi')
      unfold okAt at this
      rw [List.getElem?_eq_getElem hi', List.getElem?_eq_getElem (by omega)] at this
      simp at this
      simp [this.1]
    · obtain ⟨i, hi, rfl⟩ := List.getElem_of_mem hv
      have := h2 i (List.mem_range.2 hi)
      unfold okAt at this
      rw [List.getElem?_eq_getElem hi, List.getElem?_eq_getElem (by omega)] at this
      simp at this
      exact this.2
  · rintro ⟨⟨h1, h2⟩, h3⟩
    refine ⟨h1, fun i hi => ?_⟩
    have hi' : i < r.length := List.mem_range.1 hi
    unfold okAt
    rw [List.getElem?_eq_getElem hi', List.getElem?_eq_getElem (by omega)]
    have := h2 (r[i], cs[i]) (by
      rw [List.mem_iff_getElem]
      exact ⟨i, by rw [List.length_zip]; omega, by simp⟩)
    simp at this
    simp [this, h3 _ (List.getElem_mem hi')]
theorem lineL_some {cs : List Cl} {l : Bs} {r : List Vl} (h : lineL cs l = some r) : rowB cs r = true ∧ rowText r = l := by
  unfold lineL at h
  split at h
  · cases h
  · rename_i q hq
    split at h
    · rename_i hf
      injection h with h
      subst h
      obtain ⟨q', hq', hm, hr⟩ := (valsP_spec _ _ _).1 hq
      rw [List.nil_append] at hq'
      subst hq'
      refine ⟨rowB_iff.2 ⟨hf, hr⟩, ?_⟩
      unfold rowText
      rw [hm, cutL_eq, join_cutR]
    · cases h
theorem lineL_row {cs : List Cl} {r : List Vl} (h : rowB cs r = true) (hne : r ≠ []) : lineL cs (rowText r) = some r := by
  obtain ⟨hf, hr⟩ := rowB_iff.1 h
  unfold lineL
  have hc : cutL (rowText r) = r.map valueL := by
    rw [cutL_eq]
    refine cut_join (by simpa using hne) fun u hu => ?_
    obtain ⟨v, hv, rfl⟩ := List.mem_map.1 hu
    exact value_whole (hr v hv)
  rw [hc, (valsP_spec _ [] r).2 ⟨r, rfl, rfl, hr⟩]
  simp only
  rw [if_pos hf]
theorem rowText_free {cs : List Cl} {r : List Vl} (h : rowB cs r = true) : (10 : UInt8) ∉ rowText r := by
  have hr := (rowB_iff.1 h).2
  unfold rowText
  clear h
  induction r with
  | nil => simp [joinC]
  | cons v r ih =>
    have h1 := value_free (hr v (List.mem_cons_self ..))
    have h2 := ih (fun x hx => hr x (List.mem_cons_of_mem _ hx))
    cases r with
    | nil => simpa [joinC] using h1
    | cons u r =>
      rw [List.map_cons, joinC_cons 32 _ (by simp)]
      simp only [List.mem_append, List.mem_cons, not_or]
      exact ⟨h1, by decide, h2⟩
/-! ### Lines -/
theorem linesP_some (cs : List Cl) : ∀ (ls : List Bs) (i : Nat) (acc : List (List Vl)) (t : Tb), linesP cs ls i acc = .ok t → ∃ rs, t = ⟨cs, acc ++ rs⟩ ∧ ls = rs.map rowText ++ [[]] ∧ (∀ r ∈ rs, rowB cs r = true) ∧ (acc.length ≤ 60 → (acc ++ rs).length ≤ 60)
  | [], i, acc, t, h => by simp [linesP] at h
  | l :: rest, i, acc, t, h => by
    unfold linesP at h
    split at h
    · rename_i he
      injection h with h
      subst h
      exact ⟨[], by simp, by simp [he.1, he.2], by simp, by simp⟩
    · split at h
      · cases h
      · rename_i r hr
        split at h
        · cases h
        · rename_i h60
          obtain ⟨rs, rfl, rfl, h3, h4⟩ := linesP_some cs rest (i + 1) (acc ++ [r]) t h
          have hl := lineL_some hr
          refine ⟨r :: rs, by simp, by simp [hl.2], fun x hx => ?_, fun ha => ?_⟩
          · rcases List.mem_cons.1 hx with rfl | hx
            · exact hl.1
            · exact h3 x hx
          · have := h4 (by simp; omega)
            simp at this ⊢
            omega
theorem linesP_rows (cs : List Cl) (hc : cs ≠ []) : ∀ (rs : List (List Vl)) (i : Nat) (acc : List (List Vl)), (∀ r ∈ rs, rowB cs r = true) → (acc ++ rs).length ≤ 60 → linesP cs (rs.map rowText ++ [[]]) i acc = .ok ⟨cs, acc ++ rs⟩
  | [], i, acc, _, _ => by simp [linesP]
  | r :: rs, i, acc, hr, hn => by
    have h1 := hr r (List.mem_cons_self ..)
    have hne : r ≠ [] := by
      rintro rfl
      have := (rowB_iff.1 h1).1
      unfold fits at this
      simp at this
      exact hc (List.eq_nil_of_length_eq_zero this.symm)
    rw [List.map_cons, List.cons_append]
    unfold linesP
    rw [if_neg (by simp), lineL_row h1 hne]
    simp only
    simp only [List.length_append, List.length_cons] at hn
    rw [if_neg (by omega), linesP_rows cs hc rs (i + 1) (acc ++ [r]) (fun x hx => hr x (List.mem_cons_of_mem _ hx)) (by simp; omega)]
    simp
/-! ### Columns -/
def colText (c : Cl) : Bs := c.name ++ 58 :: kindW c.kind.toNat
def headText (l : List Cl) : Bs := joinC 32 (l.map colText)
theorem colsT_join (l : List Cl) : ∀ k, k ≤ l.length → colsT l k = joinC 32 ((l.take k).map colText)
  | 0, _ => by simp [colsT, joinC]
  | k + 1, h => by
    have ih := colsT_join l k (by omega)
    unfold colsT
    rw [ih, List.getElem?_eq_getElem (by omega), List.take_succ_eq_append_getElem (by omega), List.map_append]
    cases k with
    | zero => simp [joinC, colText]
    | succ k =>
      rw [if_neg (by omega), List.map_singleton, joinC_snoc]
      · simp [colText]
      · cases l with
        | nil => simp at h
        | cons a l => simp
theorem colsT_all (l : List Cl) : colsT l l.length = headText l := by
  rw [colsT_join l l.length (Nat.le_refl _), List.take_length]; rfl
theorem colsB_col {l : List Cl} (h : colsB l = true) : ∀ c ∈ l, nameB c.name = true ∧ (c.kind = 1 ∨ c.kind = 2) := fun c hc => by
  obtain ⟨i, hi, rfl⟩ := List.getElem_of_mem hc
  unfold colsB at h
  simp only [Bool.and_eq_true, List.all_eq_true] at h
  have := h.2 i (List.mem_range.2 hi)
  unfold okCol at this
  rw [List.getElem?_eq_getElem hi] at this
  simp only [Bool.and_eq_true, Bool.or_eq_true, decide_eq_true_eq] at this
  exact this.1
theorem colsB_ne {l : List Cl} (h : colsB l = true) : l ≠ [] ∧ l.length ≤ 6 := by
  unfold colsB at h
  simp only [Bool.and_eq_true, decide_eq_true_eq] at h
  refine ⟨?_, h.1.2⟩
  rintro rfl
  simp at h
theorem name_free {s : Bs} (h : nameB s = true) : ∀ b ∈ s, lettersDigits.contains b = true := by
  unfold nameB at h
  simp only [Bool.and_eq_true, List.all_eq_true] at h
  exact h.2
theorem ld_no {b : UInt8} (h : lettersDigits.contains b = true) : b ≠ 10 ∧ b ≠ 32 ∧ b ≠ 58 := by
  refine ⟨?_, ?_, ?_⟩ <;> (rintro rfl; exact absurd h (by decide))
theorem kindW_free (j : Nat) : ∀ b ∈ kindW j, b ≠ 10 ∧ b ≠ 32 := by
  unfold kindW
  split <;> decide
theorem colText_free {c : Cl} (h : nameB c.name = true) : (10 : UInt8) ∉ colText c ∧ (32 : UInt8) ∉ colText c := by
  have hn := name_free h
  have hk := kindW_free c.kind.toNat
  unfold colText
  simp only [List.mem_append, List.mem_cons, not_or]
  refine ⟨⟨fun hm => (ld_no (hn _ hm)).1 rfl, by decide, fun hm => (hk _ hm).1 rfl⟩, fun hm => (ld_no (hn _ hm)).2.1 rfl, by decide, fun hm => (hk _ hm).2 rfl⟩
theorem colP_text {c : Cl} (h : nameB c.name = true) (hk : c.kind = 1 ∨ c.kind = 2) : colP (colText c) = c := by
  unfold colP colText
  rw [cutC_hit 58 _ _ (fun hm => (ld_no (name_free h _ hm)).2.2 rfl)]
  obtain ⟨n, k⟩ := c
  rcases hk with hk | hk
  · simp only at hk; subst hk; rfl
  · simp only at hk; subst hk; rfl
theorem colText_colP {u : Bs} (hk : (colP u).kind = 1 ∨ (colP u).kind = 2) : colText (colP u) = u := by
  unfold colP at hk
  simp only at hk
  have h2 : (cutC 58 u).2 = kindW (kix (cutC 58 u).2) ∧ (cutC 58 u).2 ≠ [] := by
    unfold kix at hk ⊢
    split at hk
    · rename_i h; rw [h]; decide
    · split at hk
      · rename_i h; rw [h]; decide
      · simp at hk
  have hm : 58 ∈ u := by
    refine Classical.byContradiction fun hm => h2.2 ?_
    rw [cutC_miss 58 u hm]
  unfold colText colP
  simp only [Int.toNat_natCast]
  rw [← h2.1]
  exact (cutC_eq' 58 u hm).symm
theorem colsP_head {l : List Cl} (h : colsB l = true) : colsP (headText l) = l := by
  have hc := colsB_col h
  unfold colsP headText
  rw [split_join 32 (by simpa using (colsB_ne h).1) (fun u hu => by
    obtain ⟨c, hcm, rfl⟩ := List.mem_map.1 hu
    exact (colText_free (hc c hcm).1).2), List.map_map]
  conv => rhs; rw [← List.map_id l]
  exact List.map_congr_left fun c hcm => colP_text (hc c hcm).1 (hc c hcm).2
theorem head_colsP {u : Bs} (h : colsB (colsP u) = true) : headText (colsP u) = u := by
  have hc := colsB_col h
  unfold headText
  have e : (colsP u).map colText = splitC 32 u := by
    unfold colsP at hc ⊢
    rw [List.map_map]
    conv => rhs; rw [← List.map_id (splitC 32 u)]
    exact List.map_congr_left fun c hcm => colText_colP (hc (colP c) (List.mem_map_of_mem hcm)).2
  rw [e, join_split]
theorem headText_free {l : List Cl} (h : colsB l = true) : (10 : UInt8) ∉ headText l := by
  have hc := colsB_col h
  unfold headText
  clear h
  induction l with
  | nil => simp [joinC]
  | cons v r ih =>
    have h1 := (colText_free (hc v (List.mem_cons_self ..)).1).1
    have h2 := ih (fun x hx => hc x (List.mem_cons_of_mem _ hx))
    cases r with
    | nil => simpa [joinC] using h1
    | cons u r =>
      rw [List.map_cons, joinC_cons 32 _ (by simp)]
      simp only [List.mem_append, List.mem_cons, not_or]
      exact ⟨h1, by decide, h2⟩
/-! ### Tables -/
theorem rowsT_flat (rs : List (List Vl)) : ∀ k, k ≤ rs.length → rowsT rs k = (rs.take k).flatMap fun r => rowText r ++ [10]
  | 0, _ => by simp [rowsT]
  | k + 1, h => by
    have ih := rowsT_flat rs k (by omega)
    unfold rowsT
    rw [ih, List.getElem?_eq_getElem (by omega), List.take_succ_eq_append_getElem (by omega), List.flatMap_append]
    simp [rowT_all]
theorem join_lines : ∀ ls : List Bs, joinC 10 (ls ++ [[]]) = ls.flatMap fun l => l ++ [10]
  | [] => rfl
  | l :: ls => by
    rw [List.cons_append, joinC_cons 10 l (by simp), join_lines ls]
    simp
theorem print_join (t : Tb) : printL t = joinC 10 (headText t.cols :: t.rows.map rowText ++ [[]]) := by
  unfold printL
  rw [List.cons_append, joinC_cons 10 _ (by simp), join_lines, colsT_all, rowsT_flat _ _ (Nat.le_refl _), List.take_length, List.flatMap_map]
  simp
theorem rightB_parts {t : Tb} : rightB t = true ↔ colsB t.cols = true ∧ t.rows.length ≤ 60 ∧ ∀ r ∈ t.rows, rowB t.cols r = true := by
  unfold rightB
  simp only [Bool.and_eq_true, decide_eq_true_eq, List.all_eq_true]
  constructor
  · rintro ⟨⟨a, b⟩, c⟩; exact ⟨a, b, c⟩
  · rintro ⟨a, b, c⟩; exact ⟨⟨a, b⟩, c⟩
/-- What a table is written as is that table. -/
theorem parse_print {t : Tb} (h : rightB t = true) : parseL (printL t) = .ok t := by
  obtain ⟨hc, hn, hr⟩ := rightB_parts.1 h
  have hs : splitC 10 (printL t) = headText t.cols :: t.rows.map rowText ++ [[]] := by
    rw [print_join]
    refine split_join 10 (by simp) fun u hu => ?_
    rw [List.cons_append, List.mem_cons, List.mem_append] at hu
    rcases hu with rfl | hu | hu
    · exact headText_free hc
    · obtain ⟨r, hrm, rfl⟩ := List.mem_map.1 hu
      exact rowText_free (hr r hrm)
    · rw [List.mem_singleton] at hu
      subst hu
      simp
  have e1 : (splitC 10 (printL t)).headD [] = headText t.cols := by rw [hs]; rfl
  have e2 : (splitC 10 (printL t)).tail = t.rows.map rowText ++ [[]] := by rw [hs]; rfl
  have e3 : colsP ((splitC 10 (printL t)).headD []) = t.cols := by rw [e1, colsP_head hc]
  unfold parseL
  rw [e2]
  simp only [e3]
  rw [if_pos hc, linesP_rows t.cols (colsB_ne hc).1 t.rows 0 [] hr (by simpa using hn)]
  simp
/-- What was read may be, and is written just so. -/
theorem print_parse {s : Bs} {t : Tb} (h : parseL s = .ok t) : rightB t = true ∧ printL t = s := by
  unfold parseL at h
  split at h
  · rename_i hc
    obtain ⟨rs, rfl, hl, hr, hn⟩ := linesP_some _ _ _ _ _ h
    simp only [List.nil_append] at hn ⊢
    refine ⟨rightB_parts.2 ⟨hc, hn (by simp), hr⟩, ?_⟩
    rw [print_join]
    simp only
    rw [head_colsP hc, List.cons_append, ← hl]
    have e : (splitC 10 s).headD [] :: (splitC 10 s).tail = splitC 10 s := by
      cases hs : splitC 10 s with
      | nil => exact absurd hs (splitC_nonnil 10 s)
      | cons a b => rfl
    rw [e, join_split]
  · cases h
end Go.Proofs.YtbhejdljekmohaaGreatDoor
