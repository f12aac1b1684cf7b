/- Words for memory: what a call keeps of the world, slices that read as lists outside a footprint, blocks that are known whole, strings as lists of bytes. No program in sight. Tables as plain data: what may be, how it is written, how it is read. No program in sight. Tables as plain data, and what they are in memory. -/
import Derived.WalkKit
import Derived.WalkLawsBesides
import Derived.BigQuiet
import Derived.Deep.QuietTactic
import Derived.Deep.RegionHeld3
import Derived.Deep.AppendLies
import Derived.Deep.DrawnRows
import Derived.Deep.LoopGhost
import Derived.Lib.Hide
import Derived.Deep.RegionLaw
import Derived.Deep.RegionWith
import Derived.StillTailTactics
import Derived.Laws.BytesString
import Derived.Lib.ItoaLen
import Derived.Lib.AtoiAll
import Derived.Test.YtpagiajlefejcaaGreatDoorProg
set_option linter.unusedSimpArgs false
set_option linter.unusedVariables false
namespace Go.Proofs.YtpagiajlefejcaaGreatDoor
open Go.RowKit
abbrev Bs := List UInt8
def bs (l : Bs) : ByteArray := ⟨l.toArray⟩
theorem bs_data (s : ByteArray) : bs s.data.toList = s := rfl
theorem bs_size (l : Bs) : (bs l).size = l.length := by simp [bs, ByteArray.size]
theorem bs_toList (l : Bs) : (bs l).toList = l := by rw [ByteArray.toList_eq]; simp [bs]
theorem bs_append (a b : Bs) : bs a ++ bs b = bs (a ++ b) := by
 apply ByteArray.ext
 rw [ByteArray.data_append]
 simp [bs]
theorem bs_extract (l : Bs) (a b : Nat) : (bs l).extract a b = bs ((l.take b).drop a) := by
 apply ByteArray.ext
 rw [ByteArray.data_extract]
 simp [bs, List.drop_take]
theorem bs_get (l : Bs) (i : Nat) (h : i < (bs l).size) : (bs l)[i] = l[i]'(by rw [bs_size] at h; exact h) := rfl
structure Keeps (L : List Nat) (w w' : World) : Prop where
 os : w'.os = w.os
 output : w'.output = w.output
 size : w.heap.size ≤ w'.heap.size
 block : ∀ k, k < w.heap.size → k ∉ L → w'.heap[k]? = w.heap[k]?
section
variable {L L' : List Nat} {a w w' w'' : World}
theorem Keeps.refl (L : List Nat) (w : World) : Keeps L w w := ⟨rfl, rfl, Nat.le_refl _, fun _ _ _ => rfl⟩
theorem Keeps.trans' (h : Keeps L w w') (k : Keeps L' w' w'') (hL : ∀ x ∈ L', x < w.heap.size → x ∈ L) : Keeps L w w'' :=
 ⟨k.os.trans h.os, k.output.trans h.output, Nat.le_trans h.size k.size, fun i hi hn =>
  (k.block i (Nat.lt_of_lt_of_le hi h.size) (fun hm => hn (hL i hm hi))).trans (h.block i hi hn)⟩
theorem Keeps.trans (h : Keeps L w w') (k : Keeps L w' w'') : Keeps L w w'' := h.trans' k fun _ hx _ => hx
theorem Keeps.weaken (h : Keeps L w w') (hL : ∀ x ∈ L, x < w.heap.size → x ∈ L') : Keeps L' w w' :=
 ⟨h.os, h.output, h.size, fun k hk hn => h.block k hk fun hm => hn (hL k hm hk)⟩
theorem Keeps.drew (h : Keeps L a w) : Keeps L a w.drew := ⟨h.os, h.output, h.size, h.block⟩
theorem Keeps.drewN (h : Keeps L a w) (n : Nat) : Keeps L a (w.drewN n) := ⟨h.os, h.output, h.size, h.block⟩
theorem Keeps.alloc (h : Keeps L a w) (o : Obj) : Keeps L a (w.alloc o) :=
 ⟨h.os, h.output, Nat.le_trans h.size (by simp), fun k hk hn => (Below.heap_alloc w o k (Nat.lt_of_lt_of_le hk h.size)).trans (h.block k hk hn)⟩
theorem Keeps.setCell (h : Keeps L a w) {p : Addr} (hp : p.block ∈ L ∨ a.heap.size ≤ p.block) (u : Value) : Keeps L a (w.setCell p u) :=
 ⟨h.os, h.output, by simpa [World.setCell] using h.size, fun k hk hn => (Below.heap_setCell w p u k (by
  rintro rfl
  rcases hp with hp | hp
  ·exact hn hp
  ·omega)).trans (h.block k hk hn)⟩
theorem Keeps.grown (h : Keeps L a w) {row : Option Nat} (hg : w.grownBy w' row) (hr : ∀ g, row = some g → g ∈ L ∨ a.heap.size ≤ g) : Keeps L a w' :=
 ⟨hg.os.trans h.os, hg.output.trans h.output, Nat.le_trans h.size hg.size, fun k hk hn =>
  (hg.block k (Nat.lt_of_lt_of_le hk h.size) (by
   intro he
   rcases hr k he.symm with hx | hx
   ·exact hn hx
   ·omega)).trans (h.block k hk hn)⟩
theorem Keeps.frame (h : Keeps [] w w') (may : MemPlace → Prop) : w.keptBut w' may := by
 refine ⟨h.os, h.output, fun i hi => ?_⟩
 rw [h.block i hi (by simp)]
 split <;> simp_all
theorem Keeps.same (h : Keeps [] w w') {p : MemPlace} (hp : p.block < w.heap.size) : w.sameAt w' p := by
 cases p with
 | cell b o => exact World.cell?_of_block (w := w) (h.block b hp (by simp))
 | map b => exact h.block b hp (by simp)
theorem Keeps.of_below (h : Below w.heap.size w w') : Keeps L w w' := ⟨h.os, h.output, h.size, fun k hk _ => h.block k hk⟩
theorem Keeps.cell (h : Keeps L w w') {p : Addr} (hp : p.block < w.heap.size) (hn : p.block ∉ L) : w'.cell? p = w.cell? p :=
 World.cell?_of_block (h.block p.block hp hn)
theorem Keeps.frozen (h : Keeps L w w') {p : Addr} (hp : p.block < w.heap.size) (hn : p.block ∉ L) : w'.frozen? p = w.frozen? p :=
 World.frozen?_of_block (h.block p.block hp hn)
theorem Keeps.cell_of (h : Keeps L w w') {p : Addr} {v : Value} (hc : w.cell? p = some v) (hn : p.block ∉ L) : w'.cell? p = some v :=
 (h.cell (World.block_lt_of_cell? w p hc) hn).trans hc
end
def Blk (w : World) (g : Nat) (t : TypeId) (cs : Array Value) : Prop := w.heap[g]? = some (.cells cs t (0, 0))
section
variable {w w' : World} {g : Nat} {t : TypeId} {cs : Array Value}
theorem Blk.lt (h : Blk w g t cs) : g < w.heap.size := by
 rcases Nat.lt_or_ge g w.heap.size with hlt | hge
 ·exact hlt
 ·unfold Blk at h; rw [Array.getElem?_eq_none hge] at h; cases h
theorem Blk.cell (h : Blk w g t cs) (i : Nat) : w.cell? ⟨g, i, none⟩ = cs[i]? := cell_of_row w g i cs t (0, 0) h
theorem Blk.frozen (h : Blk w g t cs) (i : Nat) : w.frozen? ⟨g, i, none⟩ = false := by
 unfold Blk at h
 simp [World.frozen?, h]
theorem Blk.new (w : World) (t : TypeId) (cs : Array Value) : Blk (w.alloc (.cells cs t)) w.heap.size t cs := heap_alloc_new w _
theorem Blk.drew (h : Blk w g t cs) : Blk w.drew g t cs := h
theorem Blk.drewN (h : Blk w g t cs) (n : Nat) : Blk (w.drewN n) g t cs := h
theorem Blk.alloc (h : Blk w g t cs) (o : Obj) : Blk (w.alloc o) g t cs := (Below.heap_alloc w o g h.lt).trans h
theorem Blk.set (h : Blk w g t cs) (i : Nat) (u : Value) : Blk (w.setCell ⟨g, i, none⟩ u) g t (cs.setIfInBounds i u) := by
 unfold Blk at h ⊢
 simp [World.setCell, Array.getElem?_modify, h]
theorem Blk.far (h : Blk w g t cs) {p : Addr} (hp : g ≠ p.block) (u : Value) : Blk (w.setCell p u) g t cs := (Below.heap_setCell w p u g hp).trans h
theorem Blk.keep {L : List Nat} (h : Blk w g t cs) (hk : Keeps L w w') (hg : g ∉ L) : Blk w' g t cs := (hk.block g h.lt hg).trans h
theorem Blk.ne {g' : Nat} {t' : TypeId} {cs' : Array Value} (h : Blk w g t cs) (h' : Blk w g' t' cs') (hne : t ≠ t') : g ≠ g' := by
 rintro rfl
 unfold Blk at h h'
 rw [h] at h'
 injection h' with h'
 injection h' with _ ht
 exact hne ht
theorem Blk.congr {cs' : Array Value} (h : Blk w g t cs) (he : cs = cs') : Blk w g t cs' := he ▸ h
end
theorem block_add (a : Addr) (n : Nat) : (a.add n).block = a.block := by unfold Addr.add; split <;> rfl
theorem add_add (a : Addr) (i j : Nat) : (a.add i).add j = a.add (i + j) := by
 unfold Addr.add
 by_cases hi : i = 0 <;> by_cases hj : j = 0 <;> simp [hi, hj, Nat.add_assoc]
theorem add_at (b o j : Nat) : (⟨b, o, none⟩ : Addr).add j = ⟨b, o + j, none⟩ := by
 unfold Addr.add
 split
 ·rename_i h; subst h; rfl
 ·rfl
def Rd (w : World) (L : List Nat) (size : Nat) (A : Option Addr) (n : Nat) (xs : List Value) : Prop :=
 xs.length = n * size ∧ (0 < n → ∃ ad, A = some ad ∧ ad.block ∉ L ∧ ad.block < w.heap.size ∧ ∀ j u, xs[j]? = some u → w.cell? (ad.add j) = some u)
section
variable {w w' : World} {L L' : List Nat} {size n : Nat} {A : Option Addr} {xs : List Value}
theorem Rd.nil : Rd w L size A 0 [] := ⟨by simp, fun h => absurd h (by omega)⟩
theorem Rd.keep (h : Rd w L size A n xs) (hk : Keeps L w w') : Rd w' L size A n xs :=
 ⟨h.1, fun hn => by
  obtain ⟨ad, e, hb, hl, hc⟩ := h.2 hn
  exact ⟨ad, e, hb, Nat.lt_of_lt_of_le hl hk.size, fun j u hu => (hk.cell (by rw [block_add]; exact hl) (by rw [block_add]; exact hb)).trans (hc j u hu)⟩⟩
theorem Rd.apart (h : Rd w L size A n xs) (hk : Keeps L w w') (hL : ∀ x ∈ L', w.heap.size ≤ x) : Rd w' L' size A n xs :=
 ⟨h.1, fun hn => by
  obtain ⟨ad, e, hb, hl, hc⟩ := h.2 hn
  exact ⟨ad, e, fun hm => by have := hL _ hm; omega, Nat.lt_of_lt_of_le hl hk.size, fun j u hu => (hk.cell (by rw [block_add]; exact hl) (by rw [block_add]; exact hb)).trans (hc j u hu)⟩⟩
theorem Rd.open' (h : Rd w L size A n xs) (hn : 0 < n) (hs : 0 < size) : ∃ b o, A = some ⟨b, o, none⟩ ∧ b ∉ L ∧ b < w.heap.size ∧ ∀ j u, xs[j]? = some u → w.cell? ⟨b, o + j, none⟩ = some u := by
 obtain ⟨⟨b, o, sp⟩, e, hb, hl, hc⟩ := h.2 hn
 have h0 : 0 < xs.length := by rw [h.1]; exact Nat.mul_pos hn hs
 have hsp := World.cell?_spot (hc 0 _ (List.getElem?_eq_getElem h0))
 have hsp' : sp = none := by simpa [Addr.add] using hsp
 subst hsp'
 refine ⟨b, o, e, hb, hl, fun j u hu => ?_⟩
 rw [← add_at]; exact hc j u hu
theorem Rd.of_own {base : Nat} {e : TypeId} {c : Nat} (h : w.ownsRow base e size (.slice A n c) n xs) (hL : ∀ g, (Value.slice A n c).ownBlock = some g → g ∉ L) : Rd w L size A n xs := by
 refine ⟨h.1, fun hn => ?_⟩
 obtain ⟨g, cap, hv, _, hlt⟩ := h.form hn
 have hA : A = some ⟨g, 0, none⟩ := by injection hv
 subst hA
 exact ⟨_, rfl, hL g rfl, hlt, h.cells (g := g) rfl⟩
end
section
variable {w w' : World} {p : Addr} {v : Value}
theorem fld_alloc (h : w.cell? p = some v ∧ w.frozen? p = false) (o : Obj) : (w.alloc o).cell? p = some v ∧ (w.alloc o).frozen? p = false := by
 have hl := World.block_lt_of_cell? w p h.1
 exact ⟨(World.cell?_alloc_lt w o p hl).trans h.1, (World.frozen?_alloc_old w o p (Nat.ne_of_lt hl)).trans h.2⟩
theorem fld_keeps {L : List Nat} (hk : Keeps L w w') (h : w.cell? p = some v ∧ w.frozen? p = false) (hn : p.block ∉ L) : w'.cell? p = some v ∧ w'.frozen? p = false :=
 ⟨hk.cell_of h.1 hn, (hk.frozen (World.block_lt_of_cell? w p h.1) hn).trans h.2⟩
theorem fld_grown {row : Option Nat} (hg : w.grownBy w' row) (h : w.cell? p = some v ∧ w.frozen? p = false) (hn : row ≠ some p.block) : w'.cell? p = some v ∧ w'.frozen? p = false :=
 ⟨(hg.cell_far p (World.block_lt_of_cell? w p h.1) (Ne.symm hn)).trans h.1, (hg.frozen_far p (World.block_lt_of_cell? w p h.1) (Ne.symm hn)).trans h.2⟩
end
theorem own_keep {w w' : World} {L : List Nat} {base : Nat} {e : TypeId} {size : Nat} {v : Value} {n : Nat} {xs : List Value} (h : w.ownsRow base e size v n xs) (hk : Keeps L w w') (hL : ∀ g, v.ownBlock = some g → g ∉ L) : w'.ownsRow base e size v n xs := by
 refine ⟨h.1, ?_⟩
 rcases h.2 with h2 | ⟨g, cap, cur, rfl, hg, hh, r⟩
 ·exact .inl h2
 ·exact .inr ⟨g, cap, cur, rfl, hg, by rw [hk.block g (Array.getElem?_eq_some_iff.1 hh).1 (hL g rfl)]; exact hh, r⟩
end Go.Proofs.YtpagiajlefejcaaGreatDoor
namespace Go.Proofs.YtpagiajlefejcaaGreatDoor
structure Vl where
 kind : Int
 num : Int
 word : Bs
deriving DecidableEq
structure Cl where
 name : Bs
 kind : Int
deriving DecidableEq
structure Tb where
 cols : List Cl
 rows : List (List Vl)
deriving DecidableEq
def letters : Bs := [97, 98, 99, 100, 101, 102, 103, 104, 105, 106, 107, 108, 109, 110, 111, 112, 113, 114, 115, 116, 117, 118, 119, 120, 121, 122]
def lettersDigits : Bs := letters ++ [48, 49, 50, 51, 52, 53, 54, 55, 56, 57]
def nameB (s : Bs) : Bool := !s.isEmpty && decide (s.length ≤ 10) && letters.contains (s.getD 0 0) && s.all (lettersDigits.contains ·)
def badB (b : UInt8) : Bool := decide (b.toNat < 32) || decide (126 < b.toNat) || decide (b.toNat = 39)
def rvB (v : Vl) : Bool :=
 if v.kind = 1 then (v.word == []) && decide (-1000000000 ≤ v.num) && decide (v.num ≤ 1000000000)
 else if v.kind = 2 then decide (v.num = 0) && decide (v.word.length ≤ 16) && !v.word.any badB
 else false
def lessB (a b : Vl) : Bool := if a.kind = b.kind then (if a.kind = 1 then decide (a.num < b.num) else Op.bytesLess a.word b.word) else decide (a.kind < b.kind)
def okCol (l : List Cl) (i : Nat) : Bool := match l[i]? with
 | some c => nameB c.name && (decide (c.kind = 1) || decide (c.kind = 2)) && !((l.take i).any fun d => d.name == c.name)
 | none => true
def colsB (l : List Cl) : Bool := decide (1 ≤ l.length) && decide (l.length ≤ 6) && (List.range l.length).all (okCol l)
def okAt (cs : List Cl) (r : List Vl) (i : Nat) : Bool := match r[i]?, cs[i]? with
 | some v, some c => decide (v.kind = c.kind) && rvB v
 | _, _ => true
def rowB (cs : List Cl) (r : List Vl) : Bool := decide (r.length = cs.length) && (List.range r.length).all (okAt cs r)
def rightB (t : Tb) : Bool := colsB t.cols && decide (t.rows.length ≤ 60) && t.rows.all (rowB t.cols)
def kindW (j : Nat) : Bs := match j with | 1 => [105, 110, 116] | 2 => [116, 101, 120, 116] | _ => []
def valueL (v : Vl) : Bs := if v.kind = 1 then Lib.itoa v.num else [39] ++ v.word ++ [39]
def numOk (n : Int) : Prop := -9223372036854775808 ≤ n ∧ n ≤ 9223372036854775807
def colsT (l : List Cl) : Nat → Bs
 | 0 => []
 | k + 1 => colsT l k ++ (if k = 0 then [] else [32]) ++ (match l[k]? with | some c => c.name ++ [58] ++ kindW c.kind.toNat | none => [])
def rowT (r : List Vl) : Nat → Bs
 | 0 => []
 | k + 1 => rowT r k ++ (if k = 0 then [] else [32]) ++ (match r[k]? with | some v => valueL v | none => [])
def rowsT (rs : List (List Vl)) : Nat → Bs
 | 0 => []
 | k + 1 => rowsT rs k ++ (match rs[k]? with | some r => rowT r r.length ++ [10] | none => [])
def printL (t : Tb) : Bs := colsT t.cols t.cols.length ++ [10] ++ rowsT t.rows t.rows.length
def kix (k : Bs) : Nat := if k = [105, 110, 116] then 1 else if k = [116, 101, 120, 116] then 2 else 0
def splitC (c : UInt8) : Bs → List Bs
 | [] => [[]]
 | b :: l => if b = c then [] :: splitC c l else match splitC c l with
  | h :: t => (b :: h) :: t
  | [] => [[b]]
def cutC (c : UInt8) : Bs → Bs × Bs
 | [] => ([], [])
 | b :: l => if b = c then ([], l) else (b :: (cutC c l).1, (cutC c l).2)
def cutS (s : Bs) : Nat → List Bs × Nat × Bool
 | 0 => ([], 0, false)
 | k + 1 =>
  let r := cutS s k
  if s.getD k 0 = 39 then (r.1, r.2.1, !r.2.2)
  else if s.getD k 0 = 32 && !r.2.2 then (r.1 ++ [(s.take k).drop r.2.1], k + 1, r.2.2)
  else r
def cutL (s : Bs) : List Bs := (cutS s s.length).1 ++ [s.drop (cutS s s.length).2.1]
def quoted (s : Bs) : Bool := decide (2 ≤ s.length) && decide (s.getD 0 0 = 39) && decide (s.getD (s.length - 1) 0 = 39)
def pv0 (s : Bs) : Option Vl :=
 if quoted s then some ⟨2, 0, (s.take (s.length - 1)).drop 1⟩
 else match Lib.atoiAll s with
  | .ok n => if Lib.itoa n = s then some ⟨1, n, []⟩ else none
  | _ => none
def pvL (s : Bs) : Option Vl := match pv0 s with
 | some v => if rvB v then some v else none
 | none => none
inductive PR
 | ok (t : Tb)
 | bad (e : Int) (at_ : Nat)
def colP (u : Bs) : Cl := ⟨(cutC 58 u).1, kix (cutC 58 u).2⟩
def valsP : List Bs → List Vl → Option (List Vl)
 | [], a => some a
 | p :: ps, a => match pvL p with
  | none => none
  | some v => valsP ps (a ++ [v])
def fits (cols : List Cl) (r : List Vl) : Bool := decide (r.length = cols.length) && (r.zip cols).all fun p => p.1.kind == p.2.kind
def lineL (cols : List Cl) (l : Bs) : Option (List Vl) := match valsP (cutL l) [] with
 | none => none
 | some r => if fits cols r then some r else none
def linesP (cols : List Cl) : List Bs → Nat → List (List Vl) → PR
 | [], i, _ => .bad 3 i
 | l :: rest, i, acc => if rest = [] ∧ l = [] then .ok ⟨cols, acc⟩ else match lineL cols l with
  | none => .bad 3 (i + 1)
  | some r => if acc.length = 60 then .bad 4 (i + 1) else linesP cols rest (i + 1) (acc ++ [r])
def colsP (l : Bs) : List Cl := (splitC 32 l).map colP
def parseL (s : Bs) : PR := if colsB (colsP ((splitC 10 s).headD [])) then linesP (colsP ((splitC 10 s).headD [])) (splitC 10 s).tail 0 [] else .bad 3 0
end Go.Proofs.YtpagiajlefejcaaGreatDoor
namespace Go.Proofs.YtpagiajlefejcaaGreatDoor
open Go.RowKit
def vCells (v : Vl) : List Value := [.int .i64 v.kind, .int .i64 v.num, .string (bs v.word)]
def cCells (c : Cl) : List Value := [.string (bs c.name), .int .i64 c.kind]
def vAgg (v : Vl) : Value := .agg #[.int .i64 v.kind, .int .i64 v.num, .string (bs v.word)]
def cAgg (c : Cl) : Value := .agg #[.string (bs c.name), .int .i64 c.kind]
def vsCells (l : List Vl) : List Value := l.flatMap vCells
def csCells (l : List Cl) : List Value := l.flatMap cCells
theorem csCells_length (l : List Cl) : (csCells l).length = l.length * 2 := by
 induction l with
 | nil => rfl
 | cons p l ih => simp [csCells, cCells] at ih ⊢; omega
theorem csCells_append (l m : List Cl) : csCells (l ++ m) = csCells l ++ csCells m := by simp [csCells]
theorem vsCells_at (l : List Vl) (k : Nat) (h : k < l.length) : (vsCells l)[k * 3]? = some (.int .i64 l[k].kind) ∧ (vsCells l)[k * 3 + 1]? = some (.int .i64 l[k].num) ∧ (vsCells l)[k * 3 + 2]? = some (.string (bs l[k].word)) := by
 induction l generalizing k with
 | nil => simp at h
 | cons p l ih =>
  rcases k with _ | k
  ·simp [vsCells, vCells]
  ·have := ih k (by simpa using h)
   simpa [vsCells, vCells, Nat.succ_mul] using this
theorem csCells_at (l : List Cl) (k : Nat) (h : k < l.length) : (csCells l)[k * 2]? = some (.string (bs l[k].name)) ∧ (csCells l)[k * 2 + 1]? = some (.int .i64 l[k].kind) := by
 induction l generalizing k with
 | nil => simp at h
 | cons p l ih =>
  rcases k with _ | k
  ·simp [csCells, cCells]
  ·have := ih k (by simpa using h)
   simpa [csCells, cCells, Nat.succ_mul] using this
def RowIs (w : World) (L : List Nat) (u : Value) (r : List Vl) : Prop := ∃ A c, u = .slice A r.length c ∧ r.length ≤ c ∧ Rd w L 3 A r.length (vsCells r)
def RdRows (w : World) (L : List Nat) (A : Option Addr) (rs : List (List Vl)) : Prop :=
 ∃ us : List Value, us.length = rs.length ∧ Rd w L 1 A rs.length us ∧ ∀ i (h : i < us.length) (h' : i < rs.length), RowIs w L us[i] rs[i]
section
variable {w w' : World} {L L' : List Nat} {A : Option Addr} {rs : List (List Vl)} {u : Value} {r : List Vl}
theorem RowIs.keep (h : RowIs w L u r) (hk : Keeps L w w') : RowIs w' L u r := by
 obtain ⟨A, c, e, hc, h⟩ := h
 exact ⟨A, c, e, hc, h.keep hk⟩
theorem RdRows.keep (h : RdRows w L A rs) (hk : Keeps L w w') : RdRows w' L A rs := by
 obtain ⟨us, h1, h2, h3⟩ := h
 exact ⟨us, h1, h2.keep hk, fun i a b => (h3 i a b).keep hk⟩
end
end Go.Proofs.YtpagiajlefejcaaGreatDoor
