/- A region that draws its order, whose operations only read and whose callees keep what was there: walked once, in the order of the text. Tokens and parsers in memory. The parser's must and name. -/
import Derived.Test.YtnjjajanfedjiaaGreatDoorPtuM1
import Derived.Test.YtnjjajanfedjiaaGreatDoorProg
import Derived.Test.YtnjjajanfedjiaaGreatDoorPtuM2
set_option linter.unusedSimpArgs false
set_option linter.unusedVariables false
namespace Go.Proofs.YtnjjajanfedjiaaGreatDoor
open Go.RowKit
structure KW (w0 : World) where
 w : World
 k : Keeps [] w0 w
instance (w0 : World) : Inhabited (KW w0) := ⟨⟨w0, Keeps.refl [] w0⟩⟩
theorem wp_region_keeps {P : Program} {id : Nat} {Q : Exit → Act → World → Prop} {a : Act} {w : World} {l : List Oper} (hm : P.follows .mixedOrders = true) (hB : Region.lexB .any l.toArray = true)
  (h : wpQuiet P l.toArray (fun w' => ∃ p : KW w, w' = p.w) (fun a' => ∀ w', Keeps [] w w' → Q .normal a' w') l a) : (Code.region id l.toArray true).wp P Q a w := by
 have e : (fun a' => ∀ w', Keeps [] w w' → Q .normal a' w') = fun a' => ∀ w', (∃ p : KW w, w' = p.w) → Q .normal a' w' := by
  funext a'
  exact propext ⟨fun h w' ⟨p, e⟩ => h w' (e ▸ p.k), fun h w' k => h w' ⟨⟨w', k⟩, rfl⟩⟩
 rw [e] at h
 exact wp_region_quiet (C := fun w' => ∃ p : KW w, w' = p.w) hm hB ⟨⟨w.drew, (Keeps.refl [] w).drew⟩, rfl⟩ (by simpa using h)
theorem KW.cell {w0 : World} (p : KW w0) (b o : Nat) (h : b < w0.heap.size) : p.w.cell? ⟨b, o, none⟩ = w0.cell? ⟨b, o, none⟩ := p.k.cell h (by simp)
theorem KW.of {P : Program} {f : FuncId} {args : Array Value} {w0 : World} {v : Value} (h : ∀ W, Keeps [] w0 W → Calls P f args W fun e W' => e = .returned v ∧ Keeps [] W W') (p : KW w0) :
  Calls P f args p.w fun e w'' => e = .returned v ∧ ∃ q : KW w0, w'' = q.w :=
 (h p.w p.k).mono fun _ W' ⟨he, hk⟩ => ⟨he, ⟨W', p.k.trans hk⟩, rfl⟩
end Go.Proofs.YtnjjajanfedjiaaGreatDoor
namespace Go.Proofs.YtnjjajanfedjiaaGreatDoor
open Go.RowKit Go.BigFrame
def tCells (t : Tk) : List Value := [.int .i64 t.kind, .string (bs t.text), .int .i64 t.at_]
def tsCells (l : List Tk) : List Value := l.flatMap tCells
def EndT (l : List Tk) : Prop := ∃ l0 t, l = l0 ++ [t] ∧ t.kind = 5
theorem EndT.pos {l : List Tk} (h : EndT l) : 0 < l.length := by
 obtain ⟨l0, t, rfl, _⟩ := h
 simp
theorem EndT.tail {l : List Tk} (h : EndT l) (hk : (hdT l).kind ≠ 5) : EndT l.tail := by
 obtain ⟨l0, t, rfl, ht⟩ := h
 cases l0 with
 | nil => exact absurd ht hk
 | cons a l0 => exact ⟨l0, t, rfl, ht⟩
theorem seeP_kind {s : Bs} {l : List Tk} (h : seeP s l = true) : (hdT l).kind ≠ 5 := by
 unfold seeP at h
 intro e
 rw [e] at h
 simp at h
def OfTy (W : World) (g : Nat) (e : TypeId) : Prop := ∃ cs fz, W.heap[g]? = some (.cells cs e fz)
theorem OfTy.keep {W W' : World} {g : Nat} {e : TypeId} {L : List Nat} (h : OfTy W g e) (hk : Keeps L W W') (hg : g ∉ L) : OfTy W' g e := by
 obtain ⟨cs, fz, h⟩ := h
 exact ⟨cs, fz, (hk.block g (Array.getElem?_eq_some_iff.1 h).1 hg).trans h⟩
theorem OfTy.ne {W : World} {g g' : Nat} {e e' : TypeId} (h : OfTy W g e) (h' : OfTy W g' e') (hne : e ≠ e') : g ≠ g' := by
 rintro rfl
 obtain ⟨cs, fz, h⟩ := h
 obtain ⟨cs', fz', h'⟩ := h'
 rw [h] at h'
 injection h' with h'
 injection h' with _ h2
 exact hne h2
theorem Blk.ty {W : World} {g : Nat} {e : TypeId} {cs : Array Value} (h : Blk W g e cs) : OfTy W g e := ⟨cs, _, h⟩
def TkW (t : Tk) : Prop := t.text.length ≤ 1000000 ∧ (t.kind = 2 → ∀ c ∈ t.text, digC c = true) ∧ (t.kind = 3 → 2 ≤ t.text.length)
def Ps (W : World) (b : Nat) (l : List Tk) : Prop :=
 ∃ g o c, Blk W b 94 #[.slice (some ⟨g, o, none⟩) l.length c] ∧ (OfTy W g 97 ∧ g < b) ∧ l.length ≤ c ∧ c ≤ 9223372036854775807 ∧ EndT l ∧ (∀ t ∈ l, TkW t) ∧
  ∀ j u, (tsCells l)[j]? = some u → W.cell? ⟨g, o + j, none⟩ = some u
theorem Ps.endT {W : World} {b : Nat} {l : List Tk} (h : Ps W b l) : EndT l := by obtain ⟨_, _, _, _, _, _, _, h, _⟩ := h; exact h
theorem Ps.ty {W : World} {b : Nat} {l : List Tk} (h : Ps W b l) : OfTy W b 94 := by obtain ⟨_, _, _, h, _⟩ := h; exact h.ty
theorem Ps.lt {W : World} {b : Nat} {l : List Tk} (h : Ps W b l) : b < W.heap.size := by obtain ⟨_, _, _, h, _⟩ := h; exact h.lt
theorem Ps.far {W W' : World} {b : Nat} {l : List Tk} {L : List Nat} (h : Ps W b l) (hk : Keeps L W W') (hL : ∀ x ∈ L, ∃ e, OfTy W x e ∧ e ≠ 94 ∧ e ≠ 97) : Ps W' b l := by
 obtain ⟨g, o, c, h1, h2, h3, h4, h5, h6, h7⟩ := h
 have n1 : b ∉ L := fun hm => by
  obtain ⟨e, he, e1, e2⟩ := hL b hm
  exact he.ne h1.ty e1 rfl
 have n2 : g ∉ L := fun hm => by
  obtain ⟨e, he, e1, e2⟩ := hL g hm
  exact he.ne h2.1 e2 rfl
 exact ⟨g, o, c, h1.keep hk n1, ⟨h2.1.keep hk n2, h2.2⟩, h3, h4, h5, h6, fun j u hu => hk.cell_of (h7 j u hu) n2⟩
theorem Ps.keep {W W' : World} {b : Nat} {l : List Tk} (h : Ps W b l) (hk : Keeps [] W W') : Ps W' b l := h.far hk (fun x hx => by cases hx)
theorem Ps.open' {W : World} {b : Nat} {l : List Tk} (h : Ps W b l) : ∃ g o c, W.cell? ⟨b, 0, none⟩ = some (.slice (some ⟨g, o, none⟩) l.length c) ∧ W.frozen? ⟨b, 0, none⟩ = false ∧ b < W.heap.size ∧ g < W.heap.size ∧ g ≠ b ∧ 0 < l.length ∧ l.length ≤ c ∧ c ≤ 9223372036854775807 ∧
  W.cell? ⟨g, o, none⟩ = some (.int .i64 (hdT l).kind) ∧ W.cell? ⟨g, o + 1, none⟩ = some (.string (bs (hdT l).text)) ∧ W.cell? ⟨g, o + 2, none⟩ = some (.int .i64 (hdT l).at_) ∧ TkW (hdT l) := by
 obtain ⟨g, o, c, h1, h2, h3, h4, h5, h6, h7⟩ := h
 have hp := h5.pos
 cases l with
 | nil => simp at hp
 | cons t r =>
  have c0 := h7 0 (.int .i64 t.kind) rfl
  exact ⟨g, o, c, h1.cell 0, h1.frozen 0, h1.lt, World.block_lt_of_cell? _ _ c0, Nat.ne_of_lt h2.2, hp, h3, h4, c0, h7 1 (.string (bs t.text)) rfl, h7 2 (.int .i64 t.at_) rfl, h6 t (List.mem_cons_self ..)⟩
theorem Ps.step {W : World} {b g o c : Nat} {l : List Tk} (h : Ps W b l) (hc : W.cell? ⟨b, 0, none⟩ = some (.slice (some ⟨g, o, none⟩) l.length c)) (hk : (hdT l).kind ≠ 5) {n : Nat} {a : Addr} {d : Nat} (hn : n = l.length - 1) (ha : a = ⟨g, o + 3, none⟩) (hd : d = c - 1) : Ps (W.setCell ⟨b, 0, none⟩ (.slice (some a) n d)) b l.tail ∧ Keeps [b] W (W.setCell ⟨b, 0, none⟩ (.slice (some a) n d)) := by
 subst ha hn hd
 obtain ⟨g', o', c', h1, h2, h3, h4, h5, h6, h7⟩ := h
 have e : (Value.slice (some ⟨g', o', none⟩) l.length c') = .slice (some ⟨g, o, none⟩) l.length c := Option.some.inj ((h1.cell 0).symm.trans hc)
 injection e with e1 e2 e3
 injection e1 with e1
 injection e1 with e1 e4
 subst e1 e4 e3
 have ht := h5.tail hk
 have hgb : g' ≠ b := Nat.ne_of_lt h2.2
 have hkp : Keeps [b] W (W.setCell ⟨b, 0, none⟩ (.slice (some ⟨g', o' + 3, none⟩) (l.length - 1) (c' - 1))) := Keeps.setCell (Keeps.refl _ _) (.inl (by simp)) _
 refine ⟨⟨g', o' + 3, c' - 1, ?_, ⟨h2.1.keep hkp (by simpa using hgb), h2.2⟩, by rw [List.length_tail]; omega, by omega, ht, fun t hm => h6 t (List.mem_of_mem_tail hm), fun j u hu => ?_⟩, hkp⟩
 ·exact (h1.set 0 _).congr (by simp [List.length_tail])
 ·cases l with
  | nil => cases hu
  | cons t r =>
   have := h7 (j + 3) u (by simpa [tsCells, tCells] using hu)
   rw [show o' + 3 + j = o' + (j + 3) by omega]
   exact hkp.cell_of this (by simpa using hgb)
def Thrown (x : Int × Int) (e : Ending) (w' : World) : Prop := ∃ gi, e = .panicked [{ v := .iface 87 (.agg #[.iface 122 (.pointer (some ⟨gi, 0, none⟩))]), recovered := false }] ∧ Blk w' gi 123 #[.int .i64 x.1, .int .i64 x.2]
attribute [local go_sem] bs_size bs_extract bs_append bs_toList
set_option maxHeartbeats 1000000 in
theorem see_any (s : Bs) {l : List Tk} {b : Nat} (w : World) (h : Ps w b l) :
  Calls Tryz.prog 74 #[.pointer (some ⟨b, 0, none⟩), .string (bs s)] w fun e w' => e = .returned (.bool (seeP s l)) ∧ w = w' := by
 obtain ⟨g, o, c, c0, -, lb, lg, -, hn, hc, hc2, k0, k1, k2, -⟩ := h.open'
 have hn2 : (0 : Int) < (l.length : Int) := by omega
 obtain ⟨B, hB⟩ : ∃ B, seeP s l = B := ⟨_, rfl⟩
 have HB := Lib.hid hB
 rw [hB]
 unfold seeP at HB
 clear h hB
 cases h5 : (hdT l).kind != 5
 all_goals
  rw [h5] at HB
  go_enter Tryz.func74, Tryz.ntmps74
  go_wp2
  go_ret
  exact ⟨by rw [← HB.out]; rfl, rfl⟩
set_option maxHeartbeats 1000000 in
theorem take_any (s : Bs) {l : List Tk} {b : Nat} (w : World) (h : Ps w b l) :
  Calls Tryz.prog 114 #[.pointer (some ⟨b, 0, none⟩), .string (bs s)] w fun e w' => e = .returned (.bool (seeP s l)) ∧ Ps w' b (if seeP s l then l.tail else l) ∧ Keeps [b] w w' := by
 have HS := Lib.hid (see_any s w h)
 obtain ⟨g, o, c, c0, z0, lb, lg, -, hn, hc, hc2, k0, k1, k2, -⟩ := h.open'
 have hn2 : (0 : Int) < (l.length : Int) := by omega
 cases hB : seeP s l with
 | false =>
  rw [hB] at HS
  have H := Lib.hid h
  clear h hB
  go_enter Tryz.func114, Tryz.ntmps114
  go_wp2_with fail
  refine HS.out.mono ?_
  rintro ev w1 ⟨rfl, rfl⟩
  go_wp2
  go_ret
  exact ⟨rfl, H.out, Keeps.refl _ _⟩
 | true =>
  have hkk := seeP_kind hB
  have h2 : 1 < l.length := by have := (h.endT.tail hkk).pos; rw [List.length_tail] at this; omega
  have HT := Lib.hid (fun n a d => @Ps.step w b g o c l h c0 hkk n a d)
  have h3 : (1 : Int) ≤ (l.length : Int) := by omega
  have h4 : (1 : Int) < (c : Int) := by omega
  rw [hB] at HS
  clear h hB hkk
  go_enter Tryz.func114, Tryz.ntmps114
  go_wp2_with fail
  refine HS.out.mono ?_
  rintro ev w1 ⟨rfl, rfl⟩
  go_wp2
  go_ret
  exact ⟨rfl, HT.out _ _ _ (by omega) rfl (by omega)⟩
set_option maxHeartbeats 1000000 in
theorem fail_any' (x : Int) {l : List Tk} {b : Nat} (w : World) (h : Ps w b l) :
  Calls Tryz.prog 37 #[.pointer (some ⟨b, 0, none⟩), .int .i64 x] w fun e w' => Thrown (x, (hdT l).at_) e w' ∧ Keeps [] w w' := by
 obtain ⟨g, o, c, c0, z0, lb, lg, -, hn, hc, hc2, k0, k1, k2, -⟩ := h.open'
 have hn2 : (0 : Int) < (l.length : Int) := by omega
 clear h
 go_enter Tryz.func37, Tryz.ntmps37
 go_wp2
 exact ⟨rfl, ⟨_, rfl, Blk.new _ _ _⟩, (Keeps.refl _ _).alloc _⟩
end Go.Proofs.YtnjjajanfedjiaaGreatDoor
namespace Go.Proofs.YtnjjajanfedjiaaGreatDoor
open Go.RowKit Go.BigFrame
attribute [local go_sem] bs_size bs_extract bs_append bs_toList
theorem mustP_ok {s : Bs} {l r : List Tk} (h : mustP s l = .ok r) : seeP s l = true ∧ r = l.tail := by
 unfold mustP at h
 split at h
 ·rename_i h1
  exact ⟨h1, (Except.ok.inj h).symm⟩
 ·cases h
theorem mustP_err {s : Bs} {l : List Tk} {x : Int × Int} (h : mustP s l = .error x) : seeP s l = false ∧ x = (3, (hdT l).at_) := by
 unfold mustP at h
 split at h
 ·cases h
 ·rename_i h1
  exact ⟨by simpa using h1, (Except.error.inj h).symm⟩
set_option maxHeartbeats 1000000 in
theorem must_yes {s : Bs} {l r : List Tk} {b : Nat} (hm : mustP s l = .ok r) (w : World) (h : Ps w b l) :
  Calls Tryz.prog 77 #[.pointer (some ⟨b, 0, none⟩), .string (bs s)] w fun e w' => e = .returned (.tuple #[]) ∧ Ps w' b r ∧ Keeps [b] w w' := by
 obtain ⟨h1, rfl⟩ := mustP_ok hm
 have HS := take_any s w h
 rw [h1, if_pos rfl] at HS
 have HT := Lib.hid HS
 clear h hm h1 HS
 go_enter Tryz.func77, Tryz.ntmps77
 go_wp2_with fail
 refine HT.out.mono ?_
 rintro ev w1 ⟨rfl, hp, hk⟩
 go_wp2
 go_end0
 exact ⟨rfl, hp, hk⟩
set_option maxHeartbeats 1000000 in
theorem must_no {s : Bs} {l : List Tk} {b : Nat} {x : Int × Int} (hm : mustP s l = .error x) (w : World) (h : Ps w b l) :
  Calls Tryz.prog 77 #[.pointer (some ⟨b, 0, none⟩), .string (bs s)] w fun e w' => Thrown x e w' ∧ Keeps [b] w w' := by
 obtain ⟨h1, rfl⟩ := mustP_err hm
 have HS := take_any s w h
 rw [h1, if_neg (by simp)] at HS
 have HT := Lib.hid HS
 clear h hm h1 HS
 go_enter Tryz.func77, Tryz.ntmps77
 go_wp2_with fail
 refine HT.out.mono ?_
 rintro ev w1 ⟨rfl, hp, hk⟩
 have HP := Lib.hid hp
 clear hp
 go_wp2_with fail
 refine (fail_any' 3 w1 HP.out).mono ?_
 rintro ev w2 ⟨⟨gi, rfl, hb⟩, hk2⟩
 exact ⟨rfl, ⟨gi, rfl, hb⟩, hk.trans hk2.of_nil⟩
theorem nameP_ok {l r : List Tk} {s : Bs} (h : nameP l = .ok (s, r)) : (hdT l).kind = 1 ∧ (hdT l).text.length ≤ 10 ∧ s = (hdT l).text ∧ r = l.tail := by
 unfold nameP at h
 split at h
 ·cases h
 ·rename_i h1
  split at h
  ·cases h
  ·rename_i h2
   injection h with h
   injection h with h3 h4
   exact ⟨by simpa using h1, by omega, h3.symm, h4.symm⟩
theorem nameP_err {l : List Tk} {x : Int × Int} (h : nameP l = .error x) : ((hdT l).kind ≠ 1 ∧ x = (3, (hdT l).at_)) ∨ ((hdT l).kind = 1 ∧ 10 < (hdT l).text.length ∧ x = (4, (hdT l).at_)) := by
 unfold nameP at h
 split at h
 ·rename_i h1
  exact .inl ⟨h1, (Except.error.inj h).symm⟩
 ·rename_i h1
  split at h
  ·rename_i h2
   exact .inr ⟨by simpa using h1, h2, (Except.error.inj h).symm⟩
  ·cases h
theorem Ps.more {W : World} {b : Nat} {l : List Tk} (h : Ps W b l) (hk : (hdT l).kind ≠ 5) : 1 < l.length := by
 have := (h.endT.tail hk).pos
 rw [List.length_tail] at this
 omega
set_option maxHeartbeats 1000000 in
theorem name_yes {s : Bs} {l r : List Tk} {b : Nat} (hm : nameP l = .ok (s, r)) (w : World) (h : Ps w b l) :
  Calls Tryz.prog 78 #[.pointer (some ⟨b, 0, none⟩)] w fun e w' => e = .returned (.string (bs s)) ∧ Ps w' b r ∧ Keeps [b] w w' := by
 obtain ⟨h1, h2, rfl, rfl⟩ := nameP_ok hm
 have hk5 : (hdT l).kind ≠ 5 := by rw [h1]; decide
 have h3 := h.more hk5
 have HP := Lib.hid h
 obtain ⟨g, o, c, c0, z0, lb, lg, -, hn, hc, hc2, k0, k1, k2, -⟩ := h.open'
 rw [h1] at k0
 have hn2 : (0 : Int) < (l.length : Int) := by omega
 have hn3 : (1 : Int) ≤ (l.length : Int) := by omega
 have h4 : (1 : Int) < (c : Int) := by omega
 have h5 : ¬ (10 : Int) < ((hdT l).text.length : Int) := by omega
 have HT := Lib.hid (fun n a d => @Ps.step w b g o c l h c0 hk5 n a d)
 clear h hm h1 hk5
 go_enter Tryz.func78, Tryz.ntmps78
 go_wp2
 go_ret
 have hst := HT.out (l.length - 1) ⟨g, o + 3, none⟩ (c - 1) rfl rfl rfl
 exact ⟨rfl, hst.1.keep ((Keeps.refl _ _).alloc _), hst.2.alloc _⟩
set_option maxHeartbeats 1000000 in
theorem name_no {l : List Tk} {b : Nat} {x : Int × Int} (hm : nameP l = .error x) (w : World) (h : Ps w b l) :
  Calls Tryz.prog 78 #[.pointer (some ⟨b, 0, none⟩)] w fun e w' => Thrown x e w' ∧ Keeps [b] w w' := by
 have HP := Lib.hid h
 obtain ⟨g, o, c, c0, z0, lb, lg, -, hn, hc, hc2, k0, k1, k2, hl⟩ := h.open'
 have hn2 : (0 : Int) < (l.length : Int) := by omega
 rcases nameP_err hm with ⟨h1, rfl⟩ | ⟨h1, h2, rfl⟩
 ·have h1' : ((hdT l).kind != 1) = true := by rw [bne_iff_ne]; exact h1
  clear h hm h1
  go_enter Tryz.func78, Tryz.ntmps78
  go_wp2_with fail
  refine (fail_any' 3 _ (HP.out.keep ((Keeps.refl _ _).alloc _))).mono ?_
  rintro ev w2 ⟨⟨gi, rfl, hb⟩, hk2⟩
  exact ⟨rfl, ⟨gi, rfl, hb⟩, (((Keeps.refl _ _).alloc _).trans hk2).of_nil⟩
 ·rw [h1] at k0
  have h2' : (10 : Int) < ((hdT l).text.length : Int) := by omega
  clear h hm h1 h2
  go_enter Tryz.func78, Tryz.ntmps78
  go_wp2_with fail
  refine (fail_any' 4 _ (HP.out.keep ((Keeps.refl _ _).alloc _))).mono ?_
  rintro ev w2 ⟨⟨gi, rfl, hb⟩, hk2⟩
  exact ⟨rfl, ⟨gi, rfl, hb⟩, (((Keeps.refl _ _).alloc _).trans hk2).of_nil⟩
end Go.Proofs.YtnjjajanfedjiaaGreatDoor
