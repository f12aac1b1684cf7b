/- Tokens and parsers in memory. What the cutter's tokens are like: plain. What a flow that was read is like: plain. -/
import Derived.Test.YtnjjajanfedjiaaGreatDoorProg
import Derived.Test.YtnjjajanfedjiaaGreatDoorFrdM2
import Derived.Lib.IndexLaws
import Derived.Lib.ItoaLen
set_option linter.unusedSimpArgs false
set_option linter.unusedVariables false
namespace Go.Proofs.YtnjjajanfedjiaaGreatDoor
open Go.RowKit Go.BigFrame
def tCells (t : Tk) : List Value := [.int .i64 t.kind, .string (bs t.text), .int .i64 t.at_]
def tsCells (l : List Tk) : List Value := l.flatMap tCells
def EndT (l : List Tk) : Prop := ∃ l0 t, l = l0 ++ [t] ∧ t.kind = 5
theorem EndT.pos {l : List Tk} (h : EndT l) : 0 < l.length := by
 obtain ⟨l0, t, rfl, _⟩ := h
 simp
theorem EndT.tail {l : List Tk} (h : EndT l) (hk : (hdT l).kind ≠ 5) : EndT l.tail := by
 obtain ⟨l0, t, rfl, ht⟩ := h
 cases l0 with
 | nil => exact absurd ht hk
 | cons a l0 => exact ⟨l0, t, rfl, ht⟩
theorem seeP_kind {s : Bs} {l : List Tk} (h : seeP s l = true) : (hdT l).kind ≠ 5 := by
 unfold seeP at h
 intro e
 rw [e] at h
 simp at h
def OfTy (W : World) (g : Nat) (e : TypeId) : Prop := ∃ cs fz, W.heap[g]? = some (.cells cs e fz)
theorem OfTy.keep {W W' : World} {g : Nat} {e : TypeId} {L : List Nat} (h : OfTy W g e) (hk : Keeps L W W') (hg : g ∉ L) : OfTy W' g e := by
 obtain ⟨cs, fz, h⟩ := h
 exact ⟨cs, fz, (hk.block g (Array.getElem?_eq_some_iff.1 h).1 hg).trans h⟩
theorem OfTy.ne {W : World} {g g' : Nat} {e e' : TypeId} (h : OfTy W g e) (h' : OfTy W g' e') (hne : e ≠ e') : g ≠ g' := by
 rintro rfl
 obtain ⟨cs, fz, h⟩ := h
 obtain ⟨cs', fz', h'⟩ := h'
 rw [h] at h'
 injection h' with h'
 injection h' with _ h2
 exact hne h2
theorem Blk.ty {W : World} {g : Nat} {e : TypeId} {cs : Array Value} (h : Blk W g e cs) : OfTy W g e := ⟨cs, _, h⟩
def TkW (t : Tk) : Prop := t.text.length ≤ 1000000 ∧ (t.kind = 2 → ∀ c ∈ t.text, digC c = true) ∧ (t.kind = 3 → 2 ≤ t.text.length)
def Ps (W : World) (b : Nat) (l : List Tk) : Prop :=
 ∃ g o c, Blk W b 94 #[.slice (some ⟨g, o, none⟩) l.length c] ∧ (OfTy W g 97 ∧ g < b) ∧ l.length ≤ c ∧ c ≤ 9223372036854775807 ∧ EndT l ∧ (∀ t ∈ l, TkW t) ∧
  ∀ j u, (tsCells l)[j]? = some u → W.cell? ⟨g, o + j, none⟩ = some u
theorem Ps.endT {W : World} {b : Nat} {l : List Tk} (h : Ps W b l) : EndT l := by obtain ⟨_, _, _, _, _, _, _, h, _⟩ := h; exact h
theorem Ps.ty {W : World} {b : Nat} {l : List Tk} (h : Ps W b l) : OfTy W b 94 := by obtain ⟨_, _, _, h, _⟩ := h; exact h.ty
theorem Ps.lt {W : World} {b : Nat} {l : List Tk} (h : Ps W b l) : b < W.heap.size := by obtain ⟨_, _, _, h, _⟩ := h; exact h.lt
theorem Ps.far {W W' : World} {b : Nat} {l : List Tk} {L : List Nat} (h : Ps W b l) (hk : Keeps L W W') (hL : ∀ x ∈ L, ∃ e, OfTy W x e ∧ e ≠ 94 ∧ e ≠ 97) : Ps W' b l := by
 obtain ⟨g, o, c, h1, h2, h3, h4, h5, h6, h7⟩ := h
 have n1 : b ∉ L := fun hm => by
  obtain ⟨e, he, e1, e2⟩ := hL b hm
  exact he.ne h1.ty e1 rfl
 have n2 : g ∉ L := fun hm => by
  obtain ⟨e, he, e1, e2⟩ := hL g hm
  exact he.ne h2.1 e2 rfl
 exact ⟨g, o, c, h1.keep hk n1, ⟨h2.1.keep hk n2, h2.2⟩, h3, h4, h5, h6, fun j u hu => hk.cell_of (h7 j u hu) n2⟩
theorem Ps.keep {W W' : World} {b : Nat} {l : List Tk} (h : Ps W b l) (hk : Keeps [] W W') : Ps W' b l := h.far hk (fun x hx => by cases hx)
theorem Ps.open' {W : World} {b : Nat} {l : List Tk} (h : Ps W b l) : ∃ g o c, W.cell? ⟨b, 0, none⟩ = some (.slice (some ⟨g, o, none⟩) l.length c) ∧ W.frozen? ⟨b, 0, none⟩ = false ∧ b < W.heap.size ∧ g < W.heap.size ∧ g ≠ b ∧ 0 < l.length ∧ l.length ≤ c ∧ c ≤ 9223372036854775807 ∧
  W.cell? ⟨g, o, none⟩ = some (.int .i64 (hdT l).kind) ∧ W.cell? ⟨g, o + 1, none⟩ = some (.string (bs (hdT l).text)) ∧ W.cell? ⟨g, o + 2, none⟩ = some (.int .i64 (hdT l).at_) ∧ TkW (hdT l) := by
 obtain ⟨g, o, c, h1, h2, h3, h4, h5, h6, h7⟩ := h
 have hp := h5.pos
 cases l with
 | nil => simp at hp
 | cons t r =>
  have c0 := h7 0 (.int .i64 t.kind) rfl
  exact ⟨g, o, c, h1.cell 0, h1.frozen 0, h1.lt, World.block_lt_of_cell? _ _ c0, Nat.ne_of_lt h2.2, hp, h3, h4, c0, h7 1 (.string (bs t.text)) rfl, h7 2 (.int .i64 t.at_) rfl, h6 t (List.mem_cons_self ..)⟩
theorem Ps.step {W : World} {b g o c : Nat} {l : List Tk} (h : Ps W b l) (hc : W.cell? ⟨b, 0, none⟩ = some (.slice (some ⟨g, o, none⟩) l.length c)) (hk : (hdT l).kind ≠ 5) {n : Nat} {a : Addr} {d : Nat} (hn : n = l.length - 1) (ha : a = ⟨g, o + 3, none⟩) (hd : d = c - 1) : Ps (W.setCell ⟨b, 0, none⟩ (.slice (some a) n d)) b l.tail ∧ Keeps [b] W (W.setCell ⟨b, 0, none⟩ (.slice (some a) n d)) := by
 subst ha hn hd
 obtain ⟨g', o', c', h1, h2, h3, h4, h5, h6, h7⟩ := h
 have e : (Value.slice (some ⟨g', o', none⟩) l.length c') = .slice (some ⟨g, o, none⟩) l.length c := Option.some.inj ((h1.cell 0).symm.trans hc)
 injection e with e1 e2 e3
 injection e1 with e1
 injection e1 with e1 e4
 subst e1 e4 e3
 have ht := h5.tail hk
 have hgb : g' ≠ b := Nat.ne_of_lt h2.2
 have hkp : Keeps [b] W (W.setCell ⟨b, 0, none⟩ (.slice (some ⟨g', o' + 3, none⟩) (l.length - 1) (c' - 1))) := Keeps.setCell (Keeps.refl _ _) (.inl (by simp)) _
 refine ⟨⟨g', o' + 3, c' - 1, ?_, ⟨h2.1.keep hkp (by simpa using hgb), h2.2⟩, by rw [List.length_tail]; omega, by omega, ht, fun t hm => h6 t (List.mem_of_mem_tail hm), fun j u hu => ?_⟩, hkp⟩
 ·exact (h1.set 0 _).congr (by simp [List.length_tail])
 ·cases l with
  | nil => cases hu
  | cons t r =>
   have := h7 (j + 3) u (by simpa [tsCells, tCells] using hu)
   rw [show o' + 3 + j = o' + (j + 3) by omega]
   exact hkp.cell_of this (by simpa using hgb)
def Thrown (x : Int × Int) (e : Ending) (w' : World) : Prop := ∃ gi, e = .panicked [{ v := .iface 87 (.agg #[.iface 122 (.pointer (some ⟨gi, 0, none⟩))]), recovered := false }] ∧ Blk w' gi 123 #[.int .i64 x.1, .int .i64 x.2]
attribute [local go_sem] bs_size bs_extract bs_append bs_toList
set_option maxHeartbeats 1000000 in
theorem see_any (s : Bs) {l : List Tk} {b : Nat} (w : World) (h : Ps w b l) :
  Calls Tryz.prog 74 #[.pointer (some ⟨b, 0, none⟩), .string (bs s)] w fun e w' => e = .returned (.bool (seeP s l)) ∧ w = w' := by
 obtain ⟨g, o, c, c0, -, lb, lg, -, hn, hc, hc2, k0, k1, k2, -⟩ := h.open'
 have hn2 : (0 : Int) < (l.length : Int) := by omega
 obtain ⟨B, hB⟩ : ∃ B, seeP s l = B := ⟨_, rfl⟩
 have HB := Lib.hid hB
 rw [hB]
 unfold seeP at HB
 clear h hB
 cases h5 : (hdT l).kind != 5
 all_goals
  rw [h5] at HB
  go_enter Tryz.func74, Tryz.ntmps74
  go_wp2
  go_ret
  exact ⟨by rw [← HB.out]; rfl, rfl⟩
set_option maxHeartbeats 1000000 in
theorem take_any (s : Bs) {l : List Tk} {b : Nat} (w : World) (h : Ps w b l) :
  Calls Tryz.prog 114 #[.pointer (some ⟨b, 0, none⟩), .string (bs s)] w fun e w' => e = .returned (.bool (seeP s l)) ∧ Ps w' b (if seeP s l then l.tail else l) ∧ Keeps [b] w w' := by
 have HS := Lib.hid (see_any s w h)
 obtain ⟨g, o, c, c0, z0, lb, lg, -, hn, hc, hc2, k0, k1, k2, -⟩ := h.open'
 have hn2 : (0 : Int) < (l.length : Int) := by omega
 cases hB : seeP s l with
 | false =>
  rw [hB] at HS
  have H := Lib.hid h
  clear h hB
  go_enter Tryz.func114, Tryz.ntmps114
  go_wp2_with fail
  refine HS.out.mono ?_
  rintro ev w1 ⟨rfl, rfl⟩
  go_wp2
  go_ret
  exact ⟨rfl, H.out, Keeps.refl _ _⟩
 | true =>
  have hkk := seeP_kind hB
  have h2 : 1 < l.length := by have := (h.endT.tail hkk).pos; rw [List.length_tail] at this; omega
  have HT := Lib.hid (fun n a d => @Ps.step w b g o c l h c0 hkk n a d)
  have h3 : (1 : Int) ≤ (l.length : Int) := by omega
  have h4 : (1 : Int) < (c : Int) := by omega
  rw [hB] at HS
  clear h hB hkk
  go_enter Tryz.func114, Tryz.ntmps114
  go_wp2_with fail
  refine HS.out.mono ?_
  rintro ev w1 ⟨rfl, rfl⟩
  go_wp2
  go_ret
  exact ⟨rfl, HT.out _ _ _ (by omega) rfl (by omega)⟩
set_option maxHeartbeats 1000000 in
theorem fail_any' (x : Int) {l : List Tk} {b : Nat} (w : World) (h : Ps w b l) :
  Calls Tryz.prog 37 #[.pointer (some ⟨b, 0, none⟩), .int .i64 x] w fun e w' => Thrown (x, (hdT l).at_) e w' ∧ Keeps [] w w' := by
 obtain ⟨g, o, c, c0, z0, lb, lg, -, hn, hc, hc2, k0, k1, k2, -⟩ := h.open'
 have hn2 : (0 : Int) < (l.length : Int) := by omega
 clear h
 go_enter Tryz.func37, Tryz.ntmps37
 go_wp2
 exact ⟨rfl, ⟨_, rfl, Blk.new _ _ _⟩, (Keeps.refl _ _).alloc _⟩
end Go.Proofs.YtnjjajanfedjiaaGreatDoor
namespace Go.Proofs.YtnjjajanfedjiaaGreatDoor
theorem runN_le' (p : UInt8 → Bool) : ∀ (s : Bs), runN p s ≤ s.length
 | [] => Nat.le_refl _
 | c :: s => by
  unfold runN
  split
  ·simpa using runN_le' p s
  ·exact Nat.zero_le _
theorem runN_take (p : UInt8 → Bool) : ∀ (s : Bs), ∀ c ∈ s.take (runN p s), p c = true
 | [], c, h => by simp [runN] at h
 | d :: s, c, h => by
  unfold runN at h
  by_cases hd : p d
  ·rw [if_pos hd, List.take_succ_cons] at h
   rcases List.mem_cons.1 h with rfl | h
   ·exact hd
   ·exact runN_take p s c h
  ·rw [if_neg hd] at h
   simp at h
theorem hasPrefix_le {s m : Bs} (h : Lib.hasPrefix s m = true) : m.length ≤ s.length := by
 unfold Lib.hasPrefix at h
 exact (List.isPrefixOf_iff_prefix.1 h).length_le
theorem markN_le (s : Bs) : ∀ ms : List Bs, markN s ms ≤ s.length
 | [] => Nat.zero_le _
 | m :: ms => by
  unfold markN
  split
  ·rename_i h; exact hasPrefix_le h
  ·exact markN_le s ms
theorem nextL_le (c : UInt8) (t : Bs) : (nextL (c :: t)).2 ≤ (c :: t).length := by
 unfold nextL
 split
 ·exact runN_le' _ _
 split
 ·exact runN_le' _ _
 split
 ·show (if Lib.indexByte t 39 < 0 then 0 else (Lib.indexByte t 39).toNat + 2) ≤ (c :: t).length
  split
  ·exact Nat.zero_le _
  ·rename_i h
   have h1 := (Lib.indexByte_some (l := t) (c := 39) (o := (Lib.indexByte t 39).toNat) (by omega)).1
   have := (List.getElem?_eq_some_iff.1 h1).1
   simp only [List.length_cons]
   omega
 ·exact markN_le _ _
theorem next_w (c : UInt8) (t : Bs) (i : Int) (hs : (c :: t).length ≤ 1000000) (h0 : (nextL (c :: t)).2 ≠ 0) : TkW ⟨(nextL (c :: t)).1, (c :: t).take (nextL (c :: t)).2, i⟩ := by
 have hle := nextL_le c t
 refine ⟨?_, ?_, ?_⟩
 ·show (List.take _ _).length ≤ _
  rw [List.length_take]
  omega
 ·intro h d hd
  revert h hd
  dsimp only
  unfold nextL
  split
  ·intro h; cases h
  split
  ·intro _ hd; exact runN_take _ _ d hd
  split
  ·intro h; cases h
  ·intro h; cases h
 ·intro h
  show 2 ≤ (List.take _ _).length
  rw [List.length_take]
  revert h h0 hle
  dsimp only
  unfold nextL
  split
  ·intro _ _ h; cases h
  split
  ·intro _ _ h; cases h
  split
  ·dsimp only
   split
   ·intro h; exact absurd rfl h
   ·intro _ _ _; omega
  ·intro _ _ h; cases h
theorem lexGo_ok : ∀ (f : Nat) (s : Bs) (i : Nat) (acc l : List Tk), s.length ≤ 1000000 → acc.length ≤ 400 → (∀ t ∈ acc, TkW t) → lexGo f s i acc = .ok l → EndT l ∧ (∀ t ∈ l, TkW t) ∧ l.length ≤ 401 := by
 have hend : ∀ (acc : List Tk) (i : Nat) (l : List Tk), acc.length ≤ 400 → (∀ t ∈ acc, TkW t) → (Except.ok (acc ++ [⟨5, [], (i : Int)⟩]) : Except (Int × Int) (List Tk)) = .ok l → EndT l ∧ (∀ t ∈ l, TkW t) ∧ l.length ≤ 401 := by
  intro acc i l hl ha h
  injection h with h
  subst h
  refine ⟨⟨acc, _, rfl, rfl⟩, ?_, by simp; omega⟩
  intro t ht
  rcases List.mem_append.1 ht with ht | ht
  ·exact ha t ht
  ·rw [List.mem_singleton.1 ht]
   exact ⟨by simp, (fun h => by cases h), (fun h => by cases h)⟩
 intro f
 induction f with
 | zero => intro s i acc l _ hl ha h; exact hend acc i l hl ha h
 | succ f ih =>
  intro s i acc l hs hl ha h
  cases s with
  | nil => exact hend acc i l hl ha h
  | cons c t =>
   unfold lexGo at h
   split at h
   ·exact ih t (i + 1) acc l (by simp at hs; omega) hl ha h
   split at h
   ·cases h
   split at h
   ·cases h
   rename_i h1 h2 h3
   refine ih _ _ _ l ?_ ?_ ?_ h
   ·rw [List.length_drop]; omega
   ·rw [List.length_append]; simp; omega
   ·intro u hu
    rcases List.mem_append.1 hu with hu | hu
    ·exact ha u hu
    ·rw [List.mem_singleton.1 hu]
     exact next_w c t i hs h2
theorem lexL_ok {s : Bs} {l : List Tk} (hs : s.length ≤ 1000000) (h : lexL s = .ok l) : EndT l ∧ (∀ t ∈ l, TkW t) ∧ l.length ≤ 401 :=
 lexGo_ok _ _ _ _ _ hs (by simp) (fun t ht => by cases ht) h
end Go.Proofs.YtnjjajanfedjiaaGreatDoor
namespace Go.Proofs.YtnjjajanfedjiaaGreatDoor
structure NameW (s : Bs) : Prop where
 ne : s ≠ []
 len : s.length ≤ 10
 head : letC (s.headD 0) = true
 all : ∀ c ∈ s, ldC c = true
def NamesW (l : List Bs) : Prop := l ≠ [] ∧ l.length ≤ 1000 ∧ ∀ s ∈ l, NameW s
def ArgW (a : Ar) : Prop := (NameW a.col ∧ a.val = zV) ∨ (a.col = [] ∧ rvB a.val = true)
def ArgZ (a : Ar) : Prop := a = ⟨[], zV⟩ ∨ ArgW a
def BodyW (j : Jb) : Prop :=
 (j.code = 7 ∧ ∃ a b c d, NameW a ∧ NameW b ∧ NameW c ∧ NameW d ∧ j.ins = [a, b] ∧ j.cols = [c, d])
 ∨ (j.code = 5 ∧ ∃ a b, NameW a ∧ NameW b ∧ j.ins = [a, b] ∧ j.cols = [])
 ∨ (j.code = 6 ∧ ∃ a, NameW a ∧ j.ins = [a] ∧ j.cols = [])
 ∨ ((j.code = 1 ∨ j.code = 9) ∧ ∃ a s, NameW a ∧ NameW s ∧ j.ins = [a] ∧ j.cols = [] ∧ j.left = ⟨s, zV⟩ ∧ j.op ∈ cmpL ∧ ArgW j.right)
 ∨ (j.code = 2 ∧ ∃ a c, NameW a ∧ NameW c ∧ j.ins = [a] ∧ j.cols = [c] ∧ ArgW j.left ∧ j.op ∈ [[43], [45], [42]] ∧ ArgW j.right)
 ∨ ((j.code = 3 ∨ j.code = 4) ∧ ∃ a, NameW a ∧ j.ins = [a] ∧ NamesW j.cols)
 ∨ (j.code = 8 ∧ ∃ a c d, NameW a ∧ NameW c ∧ NameW d ∧ j.ins = [a] ∧ j.cols = [c, d] ∧ j.op ∈ [[115, 117, 109], [109, 97, 120]])
structure JobW (j : Jb) : Prop where
 outs : NamesW j.outs
 lo : 0 ≤ j.retry
 hi : j.retry ≤ 5
 left : ArgZ j.left
 right : ArgZ j.right
 op : j.op.length ≤ 10
 body : BodyW j
structure InW (x : In) : Prop where
 name : NameW x.name
 ne : x.cols ≠ []
 len : x.cols.length ≤ 1000
 cols : ∀ c ∈ x.cols, NameW c.name ∧ (c.kind = 1 ∨ c.kind = 2)
structure OutW (x : Pb) : Prop where
 name : NameW x.name
 src : NameW x.src
structure FlW (f : Fl) : Prop where
 nins : f.ins.length ≤ 16
 njobs : f.jobs.length ≤ 16
 nouts : f.outs.length ≤ 16
 ins : ∀ x ∈ f.ins, InW x
 jobs : ∀ x ∈ f.jobs, JobW x
 outs : ∀ x ∈ f.outs, OutW x
theorem joinCm_len : ∀ {l : List Bs} {n : Nat}, (∀ s ∈ l, s.length ≤ n) → (joinCm l).length ≤ l.length * (n + 2)
 | [], n, _ => by simp [joinCm, Lib.join]
 | [a], n, h => by
  have := h a (by simp)
  simp [joinCm, Lib.join]
  omega
 | a :: b :: l, n, h => by
  have h1 := h a (by simp)
  have ih := joinCm_len (l := b :: l) (n := n) (fun s hs => h s (List.mem_cons_of_mem _ hs))
  have e : joinCm (a :: b :: l) = a ++ [44, 32] ++ joinCm (b :: l) := by simp [joinCm, Lib.join]
  rw [e]
  simp only [List.length_append, List.length_cons, List.length_nil] at ih ⊢
  have : (l.length + 1 + 1) * (n + 2) = (l.length + 1) * (n + 2) + (n + 2) := by rw [Nat.succ_mul (l.length + 1)]
  omega
theorem rvB_num {v : Vl} (h : rvB v = true) : -1000000000 ≤ v.num ∧ v.num ≤ 1000000000 ∧ v.word.length ≤ 16 := by
 unfold rvB at h
 split at h
 ·simp at h
  refine ⟨by omega, by omega, ?_⟩
  rw [h.1.1]; simp
 ·split at h
  ·simp at h
   exact ⟨by omega, by omega, by omega⟩
  ·cases h
theorem itoa_len {n : Int} (h1 : -1000000000 ≤ n) (h2 : n ≤ 1000000000) : (Lib.itoa n).length ≤ 21 := Lib.itoa_length_le n (by omega) (by omega)
theorem valueL_len {v : Vl} (h : rvB v = true) : (valueL v).length ≤ 21 := by
 obtain ⟨h1, h2, h3⟩ := rvB_num h
 unfold valueL
 split
 ·exact itoa_len h1 h2
 ·simp; omega
theorem argT_len {a : Ar} (h : ArgZ a) : (argT a).length ≤ 21 := by
 unfold argT
 rcases h with h | ⟨h, _⟩ | ⟨hc, h⟩
 ·rw [h]; decide
 ·split
  ·rename_i e; exact absurd e h.ne
  ·have := h.len; omega
 ·split
  ·exact valueL_len h
  ·rename_i e; exact absurd hc e
theorem colT_len {c : Cl} (h : NameW c.name ∧ (c.kind = 1 ∨ c.kind = 2)) : (colT c).length ≤ 15 := by
 unfold colT
 have := h.1.len
 rcases h.2 with e | e
 all_goals
  rw [e]
  simp [kindW]
  omega
theorem inT_len {x : In} (h : InW x) : (inT x).length ≤ 20000 := by
 unfold inT
 have h1 := joinCm_len (l := x.cols.map colT) (n := 15) (fun s hs => by
  obtain ⟨c, hc, rfl⟩ := List.mem_map.1 hs
  exact colT_len (h.cols c hc))
 have h2 := h.name.len
 have h3 := h.len
 simp only [List.length_append, List.length_cons, List.length_nil, List.length_map] at h1 ⊢
 omega
theorem names_len {l : List Bs} (h : NamesW l) : (joinCm l).length ≤ 12000 := by
 have h1 := joinCm_len (l := l) (n := 10) (fun s hs => (h.2.2 s hs).len)
 have := h.2.1
 omega
theorem outT_len {x : Pb} (h : OutW x) : (outT x).length ≤ 40 := by
 unfold outT
 have h1 := h.name.len
 have h2 := h.src.len
 simp only [List.length_append, List.length_cons, List.length_nil]
 omega
end Go.Proofs.YtnjjajanfedjiaaGreatDoor
