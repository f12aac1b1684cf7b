/- What the cutter tells of a token, whole: plain. The reference's reader in memory; ok, fails, see, take, must. The reference's reader: ok, see, take, fails, must, name. -/
import Derived.Test.YtnjjajanfedjiaaGreatDoorFrdM14
set_option linter.unusedSimpArgs false
set_option linter.unusedVariables false
namespace Go.Proofs.YtnjjajanfedjiaaGreatDoor
def TkQ (t : Tk) : Prop := (t.kind = 3 → ∃ w : Bs, t.text = 39 :: (w ++ [39]) ∧ (39 : UInt8) ∉ w) ∧ (t.kind ≠ 1 → letC (t.text.headD 0) = false)
def TkR (t : Tk) : Prop := TkN t ∧ TkQ t
def AllR (l : List Tk) : Prop := ∀ t ∈ l, TkR t
theorem AllR.n {l : List Tk} (h : AllR l) : AllN l := fun t ht => (h t ht).1
theorem index_cut {t : Bs} {k : Nat} (h : Lib.indexByte t 39 = (k : Int)) : t.take (k + 1) = t.take k ++ [39] ∧ (39 : UInt8) ∉ t.take k := by
 obtain ⟨h1, h2⟩ := Lib.indexByte_some h
 obtain ⟨hk, h1⟩ := List.getElem?_eq_some_iff.1 h1
 refine ⟨by rw [List.take_succ_eq_append_getElem hk, h1], fun hm => ?_⟩
 obtain ⟨i, hi, hv⟩ := List.getElem_of_mem hm
 rw [List.length_take] at hi
 rw [List.getElem_take] at hv
 exact h2 i (by omega) (List.getElem?_eq_some_iff.2 ⟨by omega, hv⟩)
theorem next_q (c : UInt8) (t : Bs) (i : Int) (h0 : (nextL (c :: t)).2 ≠ 0) : TkQ ⟨(nextL (c :: t)).1, (c :: t).take (nextL (c :: t)).2, i⟩ := by
 have hh : ∀ n, n ≠ 0 → ((c :: t).take n).headD 0 = c := fun n hn => by
  obtain ⟨m, rfl⟩ : ∃ m, n = m + 1 := ⟨n - 1, by omega⟩
  rfl
 refine ⟨fun h => ?_, fun h => ?_⟩
 ·dsimp only at h ⊢
  rw [nextL_cons] at h h0 ⊢
  by_cases hl : letC c = true
  ·rw [if_pos hl] at h; cases h
  rw [if_neg hl] at h h0 ⊢
  by_cases hd : digC c = true
  ·rw [if_pos hd] at h; cases h
  rw [if_neg hd] at h h0 ⊢
  by_cases hc : c = 39
  ·rw [if_pos hc] at h h0 ⊢
   subst hc
   dsimp only at h0 ⊢
   by_cases hn : Lib.indexByte t 39 < 0
   ·rw [if_pos hn] at h0; exact absurd rfl h0
   ·rw [if_neg hn]
    obtain ⟨h1, h2⟩ := index_cut (t := t) (k := (Lib.indexByte t 39).toNat) (by omega)
    exact ⟨t.take (Lib.indexByte t 39).toNat, by rw [List.take_succ_cons, h1], h2⟩
  ·rw [if_neg hc] at h; cases h
 ·dsimp only at h ⊢
  rw [hh _ h0]
  rw [nextL_cons] at h
  by_cases hl : letC c = true
  ·rw [if_pos hl] at h; exact absurd rfl h
  ·simpa using hl
theorem lexGo_q : ∀ (f : Nat) (s : Bs) (i : Nat) (acc l : List Tk), (∀ t ∈ acc, TkQ t) → lexGo f s i acc = .ok l → ∀ t ∈ l, TkQ t := by
 have hend : ∀ (acc : List Tk) (i : Nat) (l : List Tk), (∀ t ∈ acc, TkQ t) → (Except.ok (acc ++ [⟨5, [], (i : Int)⟩]) : Except (Int × Int) (List Tk)) = .ok l → ∀ t ∈ l, TkQ t := by
  intro acc i l ha h t ht
  injection h with h
  subst h
  rcases List.mem_append.1 ht with ht | ht
  ·exact ha t ht
  ·rw [List.mem_singleton.1 ht]
   exact ⟨(fun h => by cases h), (fun _ => rfl)⟩
 intro f
 induction f with
 | zero => intro s i acc l ha h; exact hend acc i l ha h
 | succ f ih =>
  intro s i acc l ha h
  cases s with
  | nil => exact hend acc i l ha h
  | cons c t =>
   rw [lexGo_cons] at h
   split at h
   ·exact ih _ _ _ _ ha h
   split at h
   ·cases h
   split at h
   ·cases h
   rename_i h1 h2 h3
   refine ih _ _ _ l ?_ h
   intro u hu
   rcases List.mem_append.1 hu with hu | hu
   ·exact ha u hu
   ·rw [List.mem_singleton.1 hu]
    exact next_q c t i h2
theorem lex_allR {s : Bs} {l : List Tk} (hs : s.length ≤ 1000000) (h : lexL s = .ok l) : AllR l := fun t ht => ⟨lex_all hs h t ht, lexGo_q _ _ _ _ _ (fun t ht => by cases ht) h t ht⟩
end Go.Proofs.YtnjjajanfedjiaaGreatDoor
namespace Go.Proofs.YtnjjajanfedjiaaGreatDoor
open Go.RowKit Go.BigFrame
attribute [local go_sem] bs_size bs_extract bs_append bs_toList
def fErr (x : Option (Int × Int)) : Int × Int := x.getD (0, -1)
def RdIs (W : World) (b : Nat) (l : List Tk) (x : Option (Int × Int)) : Prop :=
 ∃ g o c, Blk W b 76 #[.slice (some ⟨g, o, none⟩) l.length c, .int .i64 (fErr x).1, .int .i64 (fErr x).2] ∧ (OfTy W g 81 ∧ g < b) ∧ l.length ≤ c ∧ c ≤ 9223372036854775807 ∧ EndT l ∧ AllR l ∧ (∀ y, x = some y → 0 < y.1) ∧
  ∀ j u, (tsCells l)[j]? = some u → W.cell? ⟨g, o + j, none⟩ = some u
def FineAt (w : World) : Prop := w.cell? ⟨0, 0, none⟩ = some (.int .i64 0) ∧ w.cell? ⟨0, 1, none⟩ = some (.int .i64 (-1))
theorem FineAt.keep {w w' : World} {L : List Nat} (h : FineAt w) (hk : Keeps L w w') (hL : 0 ∉ L) : FineAt w' := ⟨hk.cell_of h.1 hL, hk.cell_of h.2 hL⟩
section
variable {W W' : World} {b : Nat} {l : List Tk} {x : Option (Int × Int)} {L : List Nat}
theorem RdIs.endT (h : RdIs W b l x) : EndT l := by obtain ⟨_, _, _, _, _, _, _, h, _⟩ := h; exact h
theorem RdIs.ty (h : RdIs W b l x) : OfTy W b 76 := by obtain ⟨_, _, _, h, _⟩ := h; exact h.ty
theorem RdIs.lt (h : RdIs W b l x) : b < W.heap.size := by obtain ⟨_, _, _, h, _⟩ := h; exact h.lt
theorem RdIs.pos (h : RdIs W b l x) : ∀ y, x = some y → 0 < y.1 := by obtain ⟨_, _, _, _, _, _, _, _, _, h, _⟩ := h; exact h
theorem RdIs.far (h : RdIs W b l x) (hk : Keeps L W W') (hL : ∀ y ∈ L, ∃ e, OfTy W y e ∧ e ≠ 76 ∧ e ≠ 81) : RdIs W' b l x := by
 obtain ⟨g, o, c, h1, h2, h3, h4, h5, h6, h7, h8⟩ := h
 have n1 : b ∉ L := fun hm => by
  obtain ⟨e, he, e1, e2⟩ := hL b hm
  exact he.ne h1.ty e1 rfl
 have n2 : g ∉ L := fun hm => by
  obtain ⟨e, he, e1, e2⟩ := hL g hm
  exact he.ne h2.1 e2 rfl
 exact ⟨g, o, c, h1.keep hk n1, ⟨h2.1.keep hk n2, h2.2⟩, h3, h4, h5, h6, h7, fun j u hu => hk.cell_of (h8 j u hu) n2⟩
theorem RdIs.keep (h : RdIs W b l x) (hk : Keeps [] W W') : RdIs W' b l x := h.far hk (fun y hy => by cases hy)
theorem RdIs.open' (h : RdIs W b l x) : ∃ g o c, W.cell? ⟨b, 0, none⟩ = some (.slice (some ⟨g, o, none⟩) l.length c) ∧ W.cell? ⟨b, 1, none⟩ = some (.int .i64 (fErr x).1) ∧ W.cell? ⟨b, 2, none⟩ = some (.int .i64 (fErr x).2) ∧ (W.frozen? ⟨b, 0, none⟩ = false ∧ W.frozen? ⟨b, 1, none⟩ = false ∧ W.frozen? ⟨b, 2, none⟩ = false) ∧ b < W.heap.size ∧ g < W.heap.size ∧ g ≠ b ∧ 0 < l.length ∧ l.length ≤ c ∧ c ≤ 9223372036854775807 ∧
  W.cell? ⟨g, o, none⟩ = some (.int .i64 (hdT l).kind) ∧ W.cell? ⟨g, o + 1, none⟩ = some (.string (bs (hdT l).text)) ∧ W.cell? ⟨g, o + 2, none⟩ = some (.int .i64 (hdT l).at_) ∧ TkR (hdT l) := by
 obtain ⟨g, o, c, h1, h2, h3, h4, h5, h6, h7, h8⟩ := h
 have hp := h5.pos
 cases l with
 | nil => simp at hp
 | cons t r =>
  have c0 := h8 0 (.int .i64 t.kind) rfl
  exact ⟨g, o, c, h1.cell 0, h1.cell 1, h1.cell 2, ⟨h1.frozen 0, h1.frozen 1, h1.frozen 2⟩, h1.lt, World.block_lt_of_cell? _ _ c0, Nat.ne_of_lt h2.2, hp, h3, h4, c0, h8 1 (.string (bs t.text)) rfl, h8 2 (.int .i64 t.at_) rfl, h6 t (List.mem_cons_self ..)⟩
theorem RdIs.bad (h : RdIs W b l x) {y : Int × Int} (hy : 0 < y.1) : RdIs ((W.setCell ⟨b, 1, none⟩ (.int .i64 y.1)).setCell ⟨b, 2, none⟩ (.int .i64 y.2)) b l (some y) ∧ Keeps [b] W ((W.setCell ⟨b, 1, none⟩ (.int .i64 y.1)).setCell ⟨b, 2, none⟩ (.int .i64 y.2)) := by
 obtain ⟨g, o, c, h1, h2, h3, h4, h5, h6, h7, h8⟩ := h
 have hk : Keeps [b] W ((W.setCell ⟨b, 1, none⟩ (.int .i64 y.1)).setCell ⟨b, 2, none⟩ (.int .i64 y.2)) := ((Keeps.refl _ _).setCell (.inl (by simp)) _).setCell (.inl (by simp)) _
 have hgb : g ∉ [b] := by simpa using Nat.ne_of_lt h2.2
 exact ⟨⟨g, o, c, set3_2 (set3_1 h1), ⟨h2.1.keep hk hgb, h2.2⟩, h3, h4, h5, h6, fun z hz => by injection hz with hz; rw [← hz]; exact hy, fun j u hu => hk.cell_of (h8 j u hu) hgb⟩, hk⟩
theorem RdIs.step {g o c : Nat} (h : RdIs W b l x) (hc : W.cell? ⟨b, 0, none⟩ = some (.slice (some ⟨g, o, none⟩) l.length c)) (hk : (hdT l).kind ≠ 5) {n : Nat} {a : Addr} {d : Nat} (hn : n = l.length - 1) (ha : a = ⟨g, o + 3, none⟩) (hd : d = c - 1) : RdIs (W.setCell ⟨b, 0, none⟩ (.slice (some a) n d)) b l.tail x ∧ Keeps [b] W (W.setCell ⟨b, 0, none⟩ (.slice (some a) n d)) := by
 subst ha hn hd
 obtain ⟨g', o', c', h1, h2, h3, h4, h5, h6, h7, h8⟩ := h
 have e : (Value.slice (some ⟨g', o', none⟩) l.length c') = .slice (some ⟨g, o, none⟩) l.length c := Option.some.inj ((h1.cell 0).symm.trans hc)
 injection e with e1 e2 e3
 injection e1 with e1
 injection e1 with e1 e4
 subst e1 e4 e3
 have ht := h5.tail hk
 have hgb : g' ≠ b := Nat.ne_of_lt h2.2
 have hkp : Keeps [b] W (W.setCell ⟨b, 0, none⟩ (.slice (some ⟨g', o' + 3, none⟩) (l.length - 1) (c' - 1))) := Keeps.setCell (Keeps.refl _ _) (.inl (by simp)) _
 refine ⟨⟨g', o' + 3, c' - 1, ?_, ⟨h2.1.keep hkp (by simpa using hgb), h2.2⟩, by rw [List.length_tail]; omega, by omega, ht, fun t hm => h6 t (List.mem_of_mem_tail hm), h7, fun j u hu => ?_⟩, hkp⟩
 ·rw [List.length_tail]
  exact set3_0 h1
 ·cases l with
  | nil => cases hu
  | cons t r =>
   have := h8 (j + 3) u (by simpa [tsCells, tCells] using hu)
   rw [show o' + 3 + j = o' + (j + 3) by omega]
   exact hkp.cell_of this (by simpa using hgb)
end
end Go.Proofs.YtnjjajanfedjiaaGreatDoor
namespace Go.Proofs.YtnjjajanfedjiaaGreatDoor
open Go.RowKit Go.BigFrame
attribute [local go_sem] bs_size bs_extract bs_append bs_toList KW.cell
def runP {α : Type} (P : List Tk → Except (Int × Int) (α × List Tk)) (l : List Tk) (x : Option (Int × Int)) : Except (Int × Int) (α × List Tk) := match x with
 | none => P l
 | some y => .error y
def Rl {α : Type} (P : List Tk → Except (Int × Int) (α × List Tk)) (l : List Tk) (x : Option (Int × Int)) (a : α) (l' : List Tk) (x' : Option (Int × Int)) : Prop := match x' with
 | none => x = none ∧ P l = .ok (a, l')
 | some y => runP P l x = .error y
theorem Rl.bind {α β : Type} {P : List Tk → Except (Int × Int) (α × List Tk)} {Q : α → List Tk → Except (Int × Int) (β × List Tk)} {l l1 l2 : List Tk} {x x1 x2 : Option (Int × Int)} {a : α} {c : β} (h : Rl P l x a l1 x1) (k : Rl (Q a) l1 x1 c l2 x2) : Rl (fun l => P l >>= fun p => Q p.1 p.2) l x c l2 x2 := by
 cases x2 with
 | none =>
  obtain ⟨rfl, h2⟩ := k
  obtain ⟨rfl, h1⟩ := h
  exact ⟨rfl, by show (P l >>= _) = _; rw [h1, ok_bind]; exact h2⟩
 | some y =>
  cases x1 with
  | none =>
   obtain ⟨rfl, h1⟩ := h
   show (P l >>= _) = _
   rw [h1, ok_bind]
   exact k
  | some z =>
   have hk : z = y := by injection (show (Except.error z : Except (Int × Int) (β × List Tk)) = .error y from k)
   subst hk
   cases x with
   | none =>
    have h' : P l = .error z := h
    show (P l >>= _) = _
    rw [h', err_bind]
   | some u =>
    have hu : u = z := by injection (show (Except.error u : Except (Int × Int) (α × List Tk)) = .error z from h)
    subst hu
    exact rfl
theorem fEq (a b : Int) (W : World) : (binOp .eql 29 (.agg #[.int .i64 a, .int .i64 b]) (.agg #[.int .i64 0, .int .i64 (-1)])).run Tryz.prog W = .ok (.bool (decide (a = 0) && decide (b = -1))) W := by
 simp [go_sem]
 by_cases h1 : a = 0 <;> by_cases h2 : b = -1 <;> simp [h1, h2, go_sem]
theorem fErr_none (x : Option (Int × Int)) (h : ∀ y, x = some y → 0 < y.1) : (decide ((fErr x).1 = 0) && decide ((fErr x).2 = -1)) = x.isNone := by
 cases x with
 | none => rfl
 | some y =>
  have := h y rfl
  show (decide (y.1 = 0) && decide (y.2 = -1)) = false
  rw [decide_eq_false (by omega)]
  rfl
set_option maxHeartbeats 1000000 in
theorem ok_any {b : Nat} {l : List Tk} {x : Option (Int × Int)} (w : World) (hF : FineAt w) (h : RdIs w b l x) :
  Calls Tryz.prog 33 #[.pointer (some ⟨b, 0, none⟩)] w fun e w' => e = .returned (.bool x.isNone) ∧ Keeps [] w w' := by
 obtain ⟨g, o, c, c0, c1, c2, -, lb, lg, -, hn, hc, hc2, -⟩ := h.open'
 have hx := fErr_none x h.pos
 obtain ⟨B, hB⟩ : ∃ B, x.isNone = B := ⟨_, rfl⟩
 rw [hB] at hx ⊢
 obtain ⟨f0, f1⟩ := hF
 have lf := World.block_lt_of_cell? _ _ f0
 generalize (fErr x).1 = e1 at *
 generalize (fErr x).2 = e2 at *
 have hcmp := fEq e1 e2
 rw [hx] at hcmp
 clear h hx hB c0 hn hc hc2
 go_enter Tryz.func33, Tryz.ntmps33
 go_upto_region 1 with (fail)
 refine wp_region_keeps (by kernel_rfl) (by kernel_rfl) ?_
 repeat (go_big_quiet_step (fail))
 refine wpQuiet_nil ?_
 intro wx kx
 go_wp2
 go_ret
 exact ⟨rfl, kx⟩
set_option maxHeartbeats 1000000 in
theorem rsee_any (s : Bs) {b : Nat} {l : List Tk} {x : Option (Int × Int)} (w : World) (hF : FineAt w) (h : RdIs w b l x) :
  Calls Tryz.prog 27 #[.pointer (some ⟨b, 0, none⟩), .string (bs s)] w fun e w' => e = .returned (.bool (x.isNone && seeP s l)) ∧ Keeps [] w w' := by
 have HO := Lib.hid (ok_any w hF h)
 have HH := Lib.hid h
 cases hx : x.isNone with
 | false =>
  rw [hx] at HO
  clear h hF
  go_enter Tryz.func27, Tryz.ntmps27
  go_wp2_with fail
  refine HO.out.mono ?_
  rintro ev w1 ⟨rfl, hk⟩
  go_wp2
  go_ret
  exact ⟨rfl, hk⟩
 | true =>
  rw [hx] at HO
  obtain ⟨B, hB⟩ : ∃ B, seeP s l = B := ⟨_, rfl⟩
  have HB := Lib.hid hB
  rw [hB]
  unfold seeP at HB
  clear h hF hB
  cases h5 : (hdT l).kind != 5
  all_goals
   rw [h5] at HB
   go_enter Tryz.func27, Tryz.ntmps27
   go_wp2_with fail
   refine HO.out.mono ?_
   rintro ev w1 ⟨rfl, hk⟩
   have HK := Lib.hid hk
   obtain ⟨g, o, c, c0, c1, c2, -, lb, lg, -, hn, hc, hc2, k0, k1, k2, -⟩ := (HH.out.keep hk).open'
   have hn2 : (0 : Int) < (l.length : Int) := by omega
   clear hk
   go_wp2
   go_ret
   exact ⟨by rw [← HB.out]; rfl, HK.out⟩
set_option maxHeartbeats 1000000 in
theorem rtake_any (s : Bs) {b : Nat} {l : List Tk} {x : Option (Int × Int)} (w : World) (hF : FineAt w) (h : RdIs w b l x) :
  Calls Tryz.prog 67 #[.pointer (some ⟨b, 0, none⟩), .string (bs s)] w fun e w' => e = .returned (.bool (x.isNone && seeP s l)) ∧ RdIs w' b (if x.isNone && seeP s l then l.tail else l) x ∧ Keeps [b] w w' := by
 have HS := Lib.hid (rsee_any s w hF h)
 have HH := Lib.hid h
 cases hB : (x.isNone && seeP s l) with
 | false =>
  rw [hB] at HS
  clear h hF hB
  go_enter Tryz.func67, Tryz.ntmps67
  go_wp2_with fail
  refine HS.out.mono ?_
  rintro ev w1 ⟨rfl, hk⟩
  have HK := Lib.hid hk
  clear hk
  go_wp2
  go_ret
  exact ⟨rfl, HH.out.keep HK.out, HK.out.of_nil⟩
 | true =>
  have hs : seeP s l = true := by
   cases hx : x.isNone
   ·rw [hx] at hB; cases hB
   ·rw [hx] at hB; exact hB
  have hkk := seeP_kind hs
  have h2 : 1 < l.length := by have := (h.endT.tail hkk).pos; rw [List.length_tail] at this; omega
  have HKK := Lib.hid hkk
  have h3 : (1 : Int) ≤ (l.length : Int) := by omega
  rw [hB] at HS
  clear h hF hB hs hkk
  go_enter Tryz.func67, Tryz.ntmps67
  go_wp2_with fail
  refine HS.out.mono ?_
  rintro ev w1 ⟨rfl, hk⟩
  have HK := Lib.hid hk
  have HP := Lib.hid (HH.out.keep hk)
  obtain ⟨g, o, c, c0, c1, c2, ⟨z0, -⟩, lb, lg, -, hn, hc, hc2, k0, k1, k2, -⟩ := HP.out.open'
  have HT := Lib.hid (fun n a d => @RdIs.step w1 b l x g o c HP.out c0 HKK.out n a d)
  have h4 : (1 : Int) < (c : Int) := by omega
  clear hk
  go_wp2
  go_ret
  exact ⟨rfl, (HT.out _ _ _ (by omega) rfl (by omega)).1, HK.out.of_nil.trans (HT.out _ _ _ (by omega) rfl (by omega)).2⟩
def badX (x : Option (Int × Int)) (e : Int) (l : List Tk) : Option (Int × Int) := match x with
 | none => some (e, (hdT l).at_)
 | some y => some y
set_option maxHeartbeats 1000000 in
theorem rfails_any (e : Int) (he : 0 < e) {b : Nat} {l : List Tk} {x : Option (Int × Int)} (w : World) (hF : FineAt w) (h : RdIs w b l x) :
  Calls Tryz.prog 28 #[.pointer (some ⟨b, 0, none⟩), .int .i64 e] w fun ev w' => ev = .returned (.tuple #[]) ∧ RdIs w' b l (badX x e l) ∧ Keeps [b] w w' := by
 have HO := Lib.hid (ok_any w hF h)
 have HH := Lib.hid h
 cases x with
 | some y =>
  clear h hF
  go_enter Tryz.func28, Tryz.ntmps28
  go_wp2_with fail
  refine HO.out.mono ?_
  rintro ev w1 ⟨hev, hk⟩
  have hev' : ev = .returned (.bool false) := hev
  subst hev'
  have HK := Lib.hid hk
  clear hk hev
  go_wp2
  first | go_end0 | refine bodyPost_ret (results_none rfl _ _ _) rfl ?_
  exact ⟨rfl, HH.out.keep HK.out, HK.out.of_nil⟩
 | none =>
  clear h hF
  go_enter Tryz.func28, Tryz.ntmps28
  go_wp2_with fail
  refine HO.out.mono ?_
  rintro ev w1 ⟨hev, hk⟩
  have hev' : ev = .returned (.bool true) := hev
  subst hev'
  have HK := Lib.hid hk
  have HP := Lib.hid (HH.out.keep hk)
  obtain ⟨g, o, c, c0, c1, c2, ⟨z0, z1, z2⟩, lb, lg, -, hn, hc, hc2, k0, k1, k2, -⟩ := HP.out.open'
  have hn2 : (0 : Int) < (l.length : Int) := by omega
  have HT := Lib.hid (HP.out.bad (y := (e, (hdT l).at_)) he)
  clear hk hev
  go_wp2
  first | go_end0 | refine bodyPost_ret (results_none rfl _ _ _) rfl ?_
  exact ⟨rfl, HT.out.1, HK.out.of_nil.trans HT.out.2⟩
def mustU (s : Bs) (l : List Tk) : Except (Int × Int) (Unit × List Tk) := mustP s l >>= fun r => .ok ((), r)
set_option maxHeartbeats 1000000 in
theorem rmust_any (s : Bs) {b : Nat} {l : List Tk} {x : Option (Int × Int)} (w : World) (hF : FineAt w) (hlo : 0 ≠ b) (h : RdIs w b l x) :
  Calls Tryz.prog 31 #[.pointer (some ⟨b, 0, none⟩), .string (bs s)] w fun e w' => e = .returned (.tuple #[]) ∧ (∃ l' x', RdIs w' b l' x' ∧ Rl (mustU s) l x () l' x' ∧ l'.length ≤ l.length) ∧ Keeps [b] w w' := by
 have HT := Lib.hid (rtake_any s w hF h)
 have HF := Lib.hid hF
 cases hB : (x.isNone && seeP s l) with
 | true =>
  rw [hB] at HT
  have hx : x = none ∧ seeP s l = true := by
   cases x with
   | none => exact ⟨rfl, hB⟩
   | some y => cases hB
  obtain ⟨rfl, hs⟩ := hx
  have HRL : Hid (Rl (mustU s) l none () l.tail none) := Lib.hid ⟨rfl, by unfold mustU mustP; rw [hs]; rfl⟩
  clear h hF hB hs
  go_enter Tryz.func31, Tryz.ntmps31
  go_wp2_with fail
  refine HT.out.mono ?_
  rintro ev w1 ⟨rfl, hp, hk⟩
  have HK := Lib.hid hk
  have HP := Lib.hid hp
  clear hk hp
  go_wp2
  first | go_end0 | refine bodyPost_ret (results_none rfl _ _ _) rfl ?_
  exact ⟨rfl, ⟨_, _, HP.out, HRL.out, by simp⟩, HK.out⟩
 | false =>
  rw [hB] at HT
  have HRL : Hid (Rl (mustU s) l x () l (badX x 3 l)) := Lib.hid (by
   cases x with
   | none =>
    have hs : seeP s l = false := hB
    show mustU s l = _
    unfold mustU mustP
    rw [hs]
    rfl
   | some y => rfl)
  clear h hF hB
  go_enter Tryz.func31, Tryz.ntmps31
  go_wp2_with fail
  refine HT.out.mono ?_
  rintro ev w1 ⟨rfl, hp, hk⟩
  have HK := Lib.hid hk
  have HP := Lib.hid hp
  clear hk hp
  go_wp2_with fail
  refine (rfails_any 3 (by decide) w1 (HF.out.keep HK.out (by simpa using hlo)) HP.out).mono ?_
  rintro ev w2 ⟨rfl, hp, hk⟩
  have HK2 := Lib.hid (HK.out.trans hk)
  have HP2 := Lib.hid hp
  clear hk hp
  go_wp2
  first | go_end0 | refine bodyPost_ret (results_none rfl _ _ _) rfl ?_
  exact ⟨rfl, ⟨_, _, HP2.out, HRL.out, Nat.le_refl _⟩, HK2.out⟩
theorem name_bad11 {l : List Tk} {x : Option (Int × Int)} {z : Int × Int} (h1 : ¬ (hdT l).kind = 1) (h2 : 10 < (hdT l).text.length) (h : badX (badX x 3 l) 4 l = some z) : Rl nameP l x [] l (some z) := by
 cases x with
 | some y => exact congrArg Except.error (by injection h)
 | none =>
  show nameP l = .error z
  unfold nameP
  rw [if_pos h1]
  exact congrArg Except.error (by injection h)
theorem name_bad10 {l : List Tk} {x : Option (Int × Int)} {z : Int × Int} (h1 : ¬ (hdT l).kind = 1) (h2 : ¬ 10 < (hdT l).text.length) (h : badX x 3 l = some z) : Rl nameP l x [] l (some z) := by
 cases x with
 | some y => exact congrArg Except.error (by injection h)
 | none =>
  show nameP l = .error z
  unfold nameP
  rw [if_pos h1]
  exact congrArg Except.error (by injection h)
theorem name_bad01 {l : List Tk} {x : Option (Int × Int)} {z : Int × Int} (h1 : (hdT l).kind = 1) (h2 : 10 < (hdT l).text.length) (h : badX x 4 l = some z) : Rl nameP l x [] l (some z) := by
 cases x with
 | some y => exact congrArg Except.error (by injection h)
 | none =>
  show nameP l = .error z
  unfold nameP
  rw [if_neg (fun e => e h1), if_pos h2]
  exact congrArg Except.error (by injection h)
theorem name_bad00 {l : List Tk} {x : Option (Int × Int)} {z : Int × Int} (h1 : (hdT l).kind = 1) (h2 : ¬ 10 < (hdT l).text.length) (h : x = some z) : Rl nameP l x [] l (some z) := by
 cases x with
 | some y => exact congrArg Except.error (by injection h)
 | none =>
  show nameP l = .error z
  unfold nameP
  cases h
set_option maxRecDepth 100000 in
set_option maxHeartbeats 4000000 in
theorem rname_any {b : Nat} {l : List Tk} {x : Option (Int × Int)} (w : World) (hF : FineAt w) (hlo : 0 ≠ b) (h : RdIs w b l x) :
  Calls Tryz.prog 32 #[.pointer (some ⟨b, 0, none⟩)] w fun e w' => ∃ s l' x', e = .returned (.string (bs s)) ∧ RdIs w' b l' x' ∧ Rl nameP l x s l' x' ∧ s.length ≤ 10 ∧ l'.length ≤ l.length ∧ Keeps [b] w w' := by
 have HH := Lib.hid h
 have HF := Lib.hid hF
 obtain ⟨g, o, c, c0, c1, c2, ⟨z0, z1, z2⟩, lb, lg, -, hn, hc, hc2, k0, k1, k2, -⟩ := h.open'
 have hn2 : (0 : Int) < (l.length : Int) := by omega
 obtain ⟨kd, hkd⟩ : ∃ kd, (hdT l).kind = kd := ⟨_, rfl⟩
 rw [hkd] at k0
 clear h hF
 by_cases e1 : kd = 1
 ·subst e1
  have HKD := Lib.hid hkd
  clear hkd
  by_cases h2 : 10 < (hdT l).text.length
  ·have t2 : (10 : Int) < ((hdT l).text.length : Int) := by omega
   have hp0 := (HH.out.keep ((Keeps.refl [] w).alloc (.cells #[.int .i64 1, .string (bs (hdT l).text), .int .i64 (hdT l).at_] 81)))
   have hk0 : Keeps [b] w (w.alloc (.cells #[.int .i64 1, .string (bs (hdT l).text), .int .i64 (hdT l).at_] 81)) := ((Keeps.refl [] w).alloc _).of_nil
   go_enter Tryz.func32, Tryz.ntmps32
   go_upto_region 2 with (fail)
   obtain ⟨y0, hy0⟩ : ∃ z, w.alloc (.cells #[.int .i64 1, .string (bs (hdT l).text), .int .i64 (hdT l).at_] 81) = z := ⟨_, rfl⟩
   have hbx : Blk y0 w.heap.size 81 #[.int .i64 1, .string (bs (hdT l).text), .int .i64 (hdT l).at_] := by rw [← hy0]; exact Blk.new _ _ _
   rw [hy0] at hp0 hk0 ⊢
   obtain ⟨tb, htb⟩ : ∃ z, w.heap.size = z := ⟨_, rfl⟩
   have HTN : Hid (tb ∉ [b]) := Lib.hid (by have := HH.out.lt; simp; omega)
   rw [htb] at hbx ⊢
   have HBX := Lib.hid hbx
   have HP := Lib.hid hp0
   have HK := Lib.hid hk0
   have q0 : y0.cell? ⟨tb, 0, none⟩ = some (.int .i64 1) := hbx.cell 0
   have q1 : y0.cell? ⟨tb, 1, none⟩ = some (.string (bs (hdT l).text)) := hbx.cell 1
   have lt := hbx.lt
   clear hbx hp0 hk0 hy0 htb c0 c1 c2 z0 z1 z2 lb lg hn hc hc2 k0 k1 k2 hn2
   go_wp2_with fail
   refine (rfails_any 4 (by decide) y0 (HF.out.keep HK.out (by simpa using hlo)) HP.out).mono ?_
   rintro ev y1 ⟨rfl, hp, hk⟩
   have HP' := Lib.hid hp
   have HK' := Lib.hid (HK.out.trans hk)
   have HBX' := Lib.hid (HBX.out.keep hk HTN.out)
   clear HP HK HBX q0 q1 lt
   have HP := HP'
   have HK := HK'
   have HBX := HBX'
   have q0 : y1.cell? ⟨tb, 0, none⟩ = some (.int .i64 1) := HBX.out.cell 0
   have q1 : y1.cell? ⟨tb, 1, none⟩ = some (.string (bs (hdT l).text)) := HBX.out.cell 1
   have lt := HBX.out.lt
   clear hp hk HP' HK' HBX'
   have HO := Lib.hid (ok_any y1 (HF.out.keep HK.out (by simpa using hlo)) HP.out)
   obtain ⟨x2, hx2⟩ : ∃ x2, (badX x 4 l) = x2 := ⟨_, rfl⟩
   rw [hx2] at HO HP
   cases x2 with
   | some z =>
    have HR : Hid (Rl nameP l x [] l (some z)) := Lib.hid (name_bad01 HKD.out h2 hx2)
    clear hx2 h2
    go_wp2_with fail
    refine HO.out.mono ?_
    rintro ev w9 ⟨hev, hk⟩
    have hev' : ev = .returned (.bool false) := hev
    subst hev'
    have HK2 := Lib.hid (HK.out.trans hk.of_nil)
    have HP2 := Lib.hid (HP.out.keep hk)
    clear hev hk
    go_wp2
    go_ret
    exact ⟨[], l, _, rfl, HP2.out, HR.out, Nat.zero_le _, Nat.le_refl _, HK2.out⟩
   | none =>
    exact absurd hx2 (by cases x <;> simp [badX])
  ·have t2 : ¬ (10 : Int) < ((hdT l).text.length : Int) := by omega
   have hp0 := (HH.out.keep ((Keeps.refl [] w).alloc (.cells #[.int .i64 1, .string (bs (hdT l).text), .int .i64 (hdT l).at_] 81)))
   have hk0 : Keeps [b] w (w.alloc (.cells #[.int .i64 1, .string (bs (hdT l).text), .int .i64 (hdT l).at_] 81)) := ((Keeps.refl [] w).alloc _).of_nil
   go_enter Tryz.func32, Tryz.ntmps32
   go_upto_region 2 with (fail)
   obtain ⟨y0, hy0⟩ : ∃ z, w.alloc (.cells #[.int .i64 1, .string (bs (hdT l).text), .int .i64 (hdT l).at_] 81) = z := ⟨_, rfl⟩
   have hbx : Blk y0 w.heap.size 81 #[.int .i64 1, .string (bs (hdT l).text), .int .i64 (hdT l).at_] := by rw [← hy0]; exact Blk.new _ _ _
   rw [hy0] at hp0 hk0 ⊢
   obtain ⟨tb, htb⟩ : ∃ z, w.heap.size = z := ⟨_, rfl⟩
   have HTN : Hid (tb ∉ [b]) := Lib.hid (by have := HH.out.lt; simp; omega)
   rw [htb] at hbx ⊢
   have HBX := Lib.hid hbx
   have HP := Lib.hid hp0
   have HK := Lib.hid hk0
   have q0 : y0.cell? ⟨tb, 0, none⟩ = some (.int .i64 1) := hbx.cell 0
   have q1 : y0.cell? ⟨tb, 1, none⟩ = some (.string (bs (hdT l).text)) := hbx.cell 1
   have lt := hbx.lt
   clear hbx hp0 hk0 hy0 htb c0 c1 c2 z0 z1 z2 lb lg hn hc hc2 k0 k1 k2 hn2
   have HO := Lib.hid (ok_any y0 (HF.out.keep HK.out (by simpa using hlo)) HP.out)
   obtain ⟨x2, hx2⟩ : ∃ x2, x = x2 := ⟨_, rfl⟩
   rw [hx2] at HO HP
   cases x2 with
   | some z =>
    have HR : Hid (Rl nameP l x [] l (some z)) := Lib.hid (name_bad00 HKD.out h2 hx2)
    clear hx2 h2
    go_wp2_with fail
    refine HO.out.mono ?_
    rintro ev w9 ⟨hev, hk⟩
    have hev' : ev = .returned (.bool false) := hev
    subst hev'
    have HK2 := Lib.hid (HK.out.trans hk.of_nil)
    have HP2 := Lib.hid (HP.out.keep hk)
    clear hev hk
    go_wp2
    go_ret
    exact ⟨[], l, _, rfl, HP2.out, HR.out, Nat.zero_le _, Nat.le_refl _, HK2.out⟩
   | none =>
    have hxn : x = none := hx2
    subst hxn
    have HR : Hid (Rl nameP l none (hdT l).text l.tail none) := Lib.hid ⟨rfl, by unfold nameP; rw [if_neg (by rw [HKD.out]; decide), if_neg h2]⟩
    have hkk : (hdT l).kind ≠ 5 := by rw [HKD.out]; decide
    have hmore : 1 < l.length := by have := (HH.out.endT.tail hkk).pos; rw [List.length_tail] at this; omega
    have h3 : (1 : Int) ≤ (l.length : Int) := by omega
    have HKK := Lib.hid hkk
    have HL10 : Hid ((hdT l).text.length ≤ 10) := Lib.hid (by omega)
    clear hx2 h2 hkk
    go_wp2_with fail
    refine HO.out.mono ?_
    rintro ev w9 ⟨hev, hk⟩
    have hev' : ev = .returned (.bool true) := hev
    subst hev'
    have HK2 := Lib.hid (HK.out.trans hk.of_nil)
    have HP2 := Lib.hid (HP.out.keep hk)
    have HBX2 := Lib.hid (HBX.out.keep hk (by simp))
    obtain ⟨g, o, c, c0, c1, c2, ⟨z0, -⟩, lb, lg, -, hn, hc, hc2, -⟩ := HP2.out.open'
    have HT := Lib.hid (fun n a d => @RdIs.step w9 b l none g o c HP2.out c0 HKK.out n a d)
    have h4 : (1 : Int) < (c : Int) := by omega
    have hne : ¬ tb = b := by simpa using HTN.out
    clear q0 q1 lt
    have q1 : w9.cell? ⟨tb, 1, none⟩ = some (.string (bs (hdT l).text)) := HBX2.out.cell 1
    have lt := HBX2.out.lt
    clear hev hk
    go_wp2
    go_ret
    exact ⟨(hdT l).text, l.tail, none, rfl, (HT.out _ _ _ (by omega) rfl (by omega)).1, HR.out, HL10.out, by rw [List.length_tail]; omega, HK2.out.trans (HT.out _ _ _ (by omega) rfl (by omega)).2⟩
 ·have t1 : (kd != 1) = true := by rw [bne_iff_ne]; exact e1
  have HKD : Hid (¬ (hdT l).kind = 1) := Lib.hid (by rw [hkd]; exact e1)
  clear hkd e1
  by_cases h2 : 10 < (hdT l).text.length
  ·have t2 : (10 : Int) < ((hdT l).text.length : Int) := by omega
   have hp0 := (HH.out.keep ((Keeps.refl [] w).alloc (.cells #[.int .i64 kd, .string (bs (hdT l).text), .int .i64 (hdT l).at_] 81)))
   have hk0 : Keeps [b] w (w.alloc (.cells #[.int .i64 kd, .string (bs (hdT l).text), .int .i64 (hdT l).at_] 81)) := ((Keeps.refl [] w).alloc _).of_nil
   go_enter Tryz.func32, Tryz.ntmps32
   go_upto_region 2 with (fail)
   obtain ⟨y0, hy0⟩ : ∃ z, w.alloc (.cells #[.int .i64 kd, .string (bs (hdT l).text), .int .i64 (hdT l).at_] 81) = z := ⟨_, rfl⟩
   have hbx : Blk y0 w.heap.size 81 #[.int .i64 kd, .string (bs (hdT l).text), .int .i64 (hdT l).at_] := by rw [← hy0]; exact Blk.new _ _ _
   rw [hy0] at hp0 hk0 ⊢
   obtain ⟨tb, htb⟩ : ∃ z, w.heap.size = z := ⟨_, rfl⟩
   have HTN : Hid (tb ∉ [b]) := Lib.hid (by have := HH.out.lt; simp; omega)
   rw [htb] at hbx ⊢
   have HBX := Lib.hid hbx
   have HP := Lib.hid hp0
   have HK := Lib.hid hk0
   have q0 : y0.cell? ⟨tb, 0, none⟩ = some (.int .i64 kd) := hbx.cell 0
   have q1 : y0.cell? ⟨tb, 1, none⟩ = some (.string (bs (hdT l).text)) := hbx.cell 1
   have lt := hbx.lt
   clear hbx hp0 hk0 hy0 htb c0 c1 c2 z0 z1 z2 lb lg hn hc hc2 k0 k1 k2 hn2
   go_wp2_with fail
   refine (rfails_any 3 (by decide) y0 (HF.out.keep HK.out (by simpa using hlo)) HP.out).mono ?_
   rintro ev y1 ⟨rfl, hp, hk⟩
   have HP' := Lib.hid hp
   have HK' := Lib.hid (HK.out.trans hk)
   have HBX' := Lib.hid (HBX.out.keep hk HTN.out)
   clear HP HK HBX q0 q1 lt
   have HP := HP'
   have HK := HK'
   have HBX := HBX'
   have q0 : y1.cell? ⟨tb, 0, none⟩ = some (.int .i64 kd) := HBX.out.cell 0
   have q1 : y1.cell? ⟨tb, 1, none⟩ = some (.string (bs (hdT l).text)) := HBX.out.cell 1
   have lt := HBX.out.lt
   clear hp hk HP' HK' HBX'
   go_wp2_with fail
   refine (rfails_any 4 (by decide) y1 (HF.out.keep HK.out (by simpa using hlo)) HP.out).mono ?_
   rintro ev y2 ⟨rfl, hp, hk⟩
   have HP' := Lib.hid hp
   have HK' := Lib.hid (HK.out.trans hk)
   have HBX' := Lib.hid (HBX.out.keep hk HTN.out)
   clear HP HK HBX q0 q1 lt
   have HP := HP'
   have HK := HK'
   have HBX := HBX'
   have q0 : y2.cell? ⟨tb, 0, none⟩ = some (.int .i64 kd) := HBX.out.cell 0
   have q1 : y2.cell? ⟨tb, 1, none⟩ = some (.string (bs (hdT l).text)) := HBX.out.cell 1
   have lt := HBX.out.lt
   clear hp hk HP' HK' HBX'
   have HO := Lib.hid (ok_any y2 (HF.out.keep HK.out (by simpa using hlo)) HP.out)
   obtain ⟨x2, hx2⟩ : ∃ x2, (badX (badX x 3 l) 4 l) = x2 := ⟨_, rfl⟩
   rw [hx2] at HO HP
   cases x2 with
   | some z =>
    have HR : Hid (Rl nameP l x [] l (some z)) := Lib.hid (name_bad11 HKD.out h2 hx2)
    clear hx2 h2
    go_wp2_with fail
    refine HO.out.mono ?_
    rintro ev w9 ⟨hev, hk⟩
    have hev' : ev = .returned (.bool false) := hev
    subst hev'
    have HK2 := Lib.hid (HK.out.trans hk.of_nil)
    have HP2 := Lib.hid (HP.out.keep hk)
    clear hev hk
    go_wp2
    go_ret
    exact ⟨[], l, _, rfl, HP2.out, HR.out, Nat.zero_le _, Nat.le_refl _, HK2.out⟩
   | none =>
    exact absurd hx2 (by cases x <;> simp [badX])
  ·have t2 : ¬ (10 : Int) < ((hdT l).text.length : Int) := by omega
   have hp0 := (HH.out.keep ((Keeps.refl [] w).alloc (.cells #[.int .i64 kd, .string (bs (hdT l).text), .int .i64 (hdT l).at_] 81)))
   have hk0 : Keeps [b] w (w.alloc (.cells #[.int .i64 kd, .string (bs (hdT l).text), .int .i64 (hdT l).at_] 81)) := ((Keeps.refl [] w).alloc _).of_nil
   go_enter Tryz.func32, Tryz.ntmps32
   go_upto_region 2 with (fail)
   obtain ⟨y0, hy0⟩ : ∃ z, w.alloc (.cells #[.int .i64 kd, .string (bs (hdT l).text), .int .i64 (hdT l).at_] 81) = z := ⟨_, rfl⟩
   have hbx : Blk y0 w.heap.size 81 #[.int .i64 kd, .string (bs (hdT l).text), .int .i64 (hdT l).at_] := by rw [← hy0]; exact Blk.new _ _ _
   rw [hy0] at hp0 hk0 ⊢
   obtain ⟨tb, htb⟩ : ∃ z, w.heap.size = z := ⟨_, rfl⟩
   have HTN : Hid (tb ∉ [b]) := Lib.hid (by have := HH.out.lt; simp; omega)
   rw [htb] at hbx ⊢
   have HBX := Lib.hid hbx
   have HP := Lib.hid hp0
   have HK := Lib.hid hk0
   have q0 : y0.cell? ⟨tb, 0, none⟩ = some (.int .i64 kd) := hbx.cell 0
   have q1 : y0.cell? ⟨tb, 1, none⟩ = some (.string (bs (hdT l).text)) := hbx.cell 1
   have lt := hbx.lt
   clear hbx hp0 hk0 hy0 htb c0 c1 c2 z0 z1 z2 lb lg hn hc hc2 k0 k1 k2 hn2
   go_wp2_with fail
   refine (rfails_any 3 (by decide) y0 (HF.out.keep HK.out (by simpa using hlo)) HP.out).mono ?_
   rintro ev y1 ⟨rfl, hp, hk⟩
   have HP' := Lib.hid hp
   have HK' := Lib.hid (HK.out.trans hk)
   have HBX' := Lib.hid (HBX.out.keep hk HTN.out)
   clear HP HK HBX q0 q1 lt
   have HP := HP'
   have HK := HK'
   have HBX := HBX'
   have q0 : y1.cell? ⟨tb, 0, none⟩ = some (.int .i64 kd) := HBX.out.cell 0
   have q1 : y1.cell? ⟨tb, 1, none⟩ = some (.string (bs (hdT l).text)) := HBX.out.cell 1
   have lt := HBX.out.lt
   clear hp hk HP' HK' HBX'
   have HO := Lib.hid (ok_any y1 (HF.out.keep HK.out (by simpa using hlo)) HP.out)
   obtain ⟨x2, hx2⟩ : ∃ x2, (badX x 3 l) = x2 := ⟨_, rfl⟩
   rw [hx2] at HO HP
   cases x2 with
   | some z =>
    have HR : Hid (Rl nameP l x [] l (some z)) := Lib.hid (name_bad10 HKD.out h2 hx2)
    clear hx2 h2
    go_wp2_with fail
    refine HO.out.mono ?_
    rintro ev w9 ⟨hev, hk⟩
    have hev' : ev = .returned (.bool false) := hev
    subst hev'
    have HK2 := Lib.hid (HK.out.trans hk.of_nil)
    have HP2 := Lib.hid (HP.out.keep hk)
    clear hev hk
    go_wp2
    go_ret
    exact ⟨[], l, _, rfl, HP2.out, HR.out, Nat.zero_le _, Nat.le_refl _, HK2.out⟩
   | none =>
    exact absurd hx2 (by cases x <;> simp [badX])
end Go.Proofs.YtnjjajanfedjiaaGreatDoor
