/- A flow that is being read by the reference's reader, in memory. The reference's Parse. -/
import Derived.Test.YtnjjajanfedjiaaGreatDoorFrdM23
import Derived.Test.YtnjjajanfedjiaaGreatDoorFrdM24
import Derived.Test.YtnjjajanfedjiaaGreatDoorFrdM25
set_option linter.unusedSimpArgs false
set_option linter.unusedVariables false
namespace Go.Proofs.YtnjjajanfedjiaaGreatDoor
open Go.RowKit Go.BigFrame
attribute [local go_sem] bs_size bs_extract bs_append bs_toList
def flTysR : List TypeId := [9, 61, 63, 45, 83, 26, 29]
structure RlSt (W : World) (base qb rb fb : Nat) (v0 v1 v2 : Value) (ins : List In) (jobs : List Jb) (outs : List Pb) : Prop where
 rbk : Blk W rb 26 #[.slice none 0 0, .slice none 0 0, .slice none 0 0]
 qbk : Blk W qb 29 #[.int .i64 0, .int .i64 0]
 fbk : Blk W fb 26 #[v0, v1, v2]
 ne : rb ≠ fb
 lo : base ≤ fb
 i0 : InsIs W base v0 ins
 i1 : JobsIs W base v1 jobs
 i2 : OutsIs W base v2 outs
section
variable {W W' W7 : World} {base qb rb fb b k : Nat} {v0 v1 v2 u : Value} {ins : List In} {jobs : List Jb} {outs : List Pb} {L : List Nat} {l : List Tk} {x : Option (Int × Int)} {o : Obj} {cs : List Value} {us : List (List Value)}
theorem RlSt.far (h : RlSt W base qb rb fb v0 v1 v2 ins jobs outs) (hf : FarOf flTysR L W W') : RlSt W' base qb rb fb v0 v1 v2 ins jobs outs :=
 ⟨hf.blk h.rbk (by decide), hf.blk h.qbk (by decide), hf.blk h.fbk (by decide), h.ne, h.lo, h.i0.far hf (by decide) (by decide), h.i1.far hf (by decide) (by decide), h.i2.far hf (by decide)⟩
theorem RlSt.keep (h : RlSt W base qb rb fb v0 v1 v2 ins jobs outs) (hk : Keeps [] W W') : RlSt W' base qb rb fb v0 v1 v2 ins jobs outs :=
 h.far ⟨hk, fun x hx => by cases hx⟩
theorem RlSt.rd (h : RlSt W base qb rb fb v0 v1 v2 ins jobs outs) (hp : RdIs W b l x) (hk : Keeps [b] W W') : RlSt W' base qb rb fb v0 v1 v2 ins jobs outs :=
 h.far ⟨hk, fun x hx => ⟨76, by rw [List.mem_singleton.1 hx]; exact hp.ty, by decide⟩⟩
theorem grown_setR {e : TypeId} {S : List TypeId} (h : RlSt W base qb rb fb v0 v1 v2 ins jobs outs) {row : Option Nat} (hg : (W.alloc o).grownBy W7 row) (hr : ∀ x, row = some x → OfTy W x e) (he : e ∉ S) (hf : 26 ∉ S) :
  FarOf S (row.toList ++ [fb]) W (W7.setCell ⟨fb, k, none⟩ u) := by
 refine ⟨(Keeps.grown ((Keeps.refl _ W).alloc o) hg (fun g hg => .inl (by rw [hg]; simp))).setCell (.inl (by simp)) _, fun x hx => ?_⟩
 rcases List.mem_append.1 hx with hx | hx
 ·cases row with
  | none => cases hx
  | some y => simp at hx; exact ⟨e, hr x (by rw [hx]), he⟩
 ·rw [List.mem_singleton.1 hx]
  exact ⟨_, h.fbk.ty, hf⟩
theorem RlSt.fbk7 {e : TypeId} (h : RlSt W base qb rb fb v0 v1 v2 ins jobs outs) {row : Option Nat} (hg : (W.alloc o).grownBy W7 row) (hr : ∀ x, row = some x → OfTy W x e) (he : e ≠ 26) : Blk W7 fb 26 #[v0, v1, v2] :=
 (hg.block fb (h.fbk.alloc o).lt (fun e' => (hr fb e'.symm).ne h.fbk.ty he rfl)).trans (h.fbk.alloc o)
theorem RlSt.keeps7 {w : World} (h : RlSt W w.heap.size qb rb fb v0 v1 v2 ins jobs outs) (hk : Keeps [b] w W) {row : Option Nat} (hg : (W.alloc o).grownBy W7 row) (hr : ∀ x, row = some x → w.heap.size ≤ x) : Keeps [b] w (W7.setCell ⟨fb, k, none⟩ u) :=
 ((hk.alloc o).grown hg (fun x hx => .inr (hr x hx))).setCell (.inr h.lo) _
theorem own_set7R {e : TypeId} {size n : Nat} {xs : List Value} (h : RlSt W base qb rb fb v0 v1 v2 ins jobs outs) {row : Option Nat} (hg : (W.alloc o).grownBy W7 row) (hr : ∀ x, row = some x → OfTy W x e) (he : e ≠ 26) (hown : W7.ownsRow base e size u n xs) {u' : Value} : (W7.setCell ⟨fb, k, none⟩ u').ownsRow base e size u n xs :=
 own_far' (L := [fb]) hown ((Keeps.refl _ _).setCell (.inl (by simp)) _) (fun x hx => by rw [List.mem_singleton.1 hx]; exact ⟨_, (h.fbk7 hg hr he).ty, he⟩)
theorem rd7 {e : TypeId} (h : RlSt W base qb rb fb v0 v1 v2 ins jobs outs) (hp : RdIs W b l x) {row : Option Nat} (hg : (W.alloc o).grownBy W7 row) (hr : ∀ x, row = some x → OfTy W x e) (he1 : e ≠ 76) (he2 : e ≠ 81) : RdIs (W7.setCell ⟨fb, k, none⟩ u) b l x := by
 have hf := grown_setR (S := [76, 81]) (k := k) (u := u) h hg hr (by simp [he1, he2]) (by decide)
 exact hp.far hf.1 (fun x hx => by obtain ⟨t, h1, h2⟩ := hf.2 x hx; exact ⟨t, h1, fun e => h2 (by simp [e]), fun e => h2 (by simp [e])⟩)
theorem RlSt.pub {m c xb : Nat} {A : Option Addr} (h : RlSt W base qb rb fb v0 v1 (.slice A m c) ins jobs outs) (ht : OfTy W xb 83) (hn : ∀ g, (Value.slice A m c).ownBlock = some g → g ≠ xb) (hk : Keeps [xb] W W') : RlSt W' base qb rb fb v0 v1 (.slice A m c) ins jobs outs := by
 have hf : FarOf [9, 61, 63, 45, 26, 29] [xb] W W' := ⟨hk, fun x hx => ⟨83, by rw [List.mem_singleton.1 hx]; exact ht, by decide⟩⟩
 obtain ⟨us, hu1, hu2, hu3⟩ := h.i2
 exact ⟨hf.blk h.rbk (by decide), hf.blk h.qbk (by decide), hf.blk h.fbk (by decide), h.ne, h.lo, h.i0.far hf (by decide) (by decide), h.i1.far hf (by decide) (by decide), us, hu1, own_keep hu2 hk (fun g hg hm => hn g hg (List.mem_singleton.1 hm)), hu3⟩
theorem RlSt.app0 {x : In} (h : RlSt W base qb rb fb v0 v1 v2 ins jobs outs) (hul : us.length = ins.length) (ho : W.ownsRow base 63 3 v0 ins.length us.flatten) (hel : ∀ j (h : j < ins.length) (h' : j < us.length), InEl W base us[j] ins[j]) (hx : InEl W base cs x) (hg : (W.alloc o).grownBy W7 v0.ownBlock) (hown : W7.ownsRow base 63 3 u (ins.length + 1) (us.flatten ++ cs)) : RlSt (W7.setCell ⟨fb, 0, none⟩ u) base qb rb fb u v1 v2 (ins ++ [x]) jobs outs := by
 have hr := own_ty ho
 have hf := grown_setR (S := [9, 61, 45, 83, 29]) (k := 0) (u := u) h hg hr (by decide) (by decide)
 have hrb : Blk (W7.setCell ⟨fb, 0, none⟩ u) rb 26 #[.slice none 0 0, .slice none 0 0, .slice none 0 0] := h.rbk.keep hf.1 (fun hm => by
  rcases List.mem_append.1 hm with hm | hm
  ·exact (hr rb (by simpa using hm)).ne h.rbk.ty (by decide) rfl
  ·exact h.ne (List.mem_singleton.1 hm))
 exact ⟨hrb, hf.blk h.qbk (by decide), set3_0 (h.fbk7 hg hr (by decide)), h.ne, h.lo, LstIs.snoc hul (fun j h1 h2 => InEl.far hf (by decide) _ _ (hel j h1 h2)) (InEl.far hf (by decide) _ _ hx) (own_set7R h hg hr (by decide) hown), h.i1.far hf (by decide) (by decide), h.i2.far hf (by decide)⟩
theorem RlSt.app1 {x : Jb} (h : RlSt W base qb rb fb v0 v1 v2 ins jobs outs) (hul : us.length = jobs.length) (ho : W.ownsRow base 45 15 v1 jobs.length us.flatten) (hel : ∀ j (h : j < jobs.length) (h' : j < us.length), JbEl W base us[j] jobs[j]) (hx : JbEl W base cs x) (hg : (W.alloc o).grownBy W7 v1.ownBlock) (hown : W7.ownsRow base 45 15 u (jobs.length + 1) (us.flatten ++ cs)) : RlSt (W7.setCell ⟨fb, 1, none⟩ u) base qb rb fb v0 u v2 ins (jobs ++ [x]) outs := by
 have hr := own_ty ho
 have hf := grown_setR (S := [9, 61, 63, 83, 29]) (k := 1) (u := u) h hg hr (by decide) (by decide)
 have hrb : Blk (W7.setCell ⟨fb, 1, none⟩ u) rb 26 #[.slice none 0 0, .slice none 0 0, .slice none 0 0] := h.rbk.keep hf.1 (fun hm => by
  rcases List.mem_append.1 hm with hm | hm
  ·exact (hr rb (by simpa using hm)).ne h.rbk.ty (by decide) rfl
  ·exact h.ne (List.mem_singleton.1 hm))
 exact ⟨hrb, hf.blk h.qbk (by decide), set3_1 (h.fbk7 hg hr (by decide)), h.ne, h.lo, h.i0.far hf (by decide) (by decide), LstIs.snoc hul (fun j h1 h2 => JbEl.far hf (by decide) _ _ (hel j h1 h2)) (JbEl.far hf (by decide) _ _ hx) (own_set7R h hg hr (by decide) hown), h.i2.far hf (by decide)⟩
theorem RlSt.app2 {x : Pb} (h : RlSt W base qb rb fb v0 v1 v2 ins jobs outs) (hul : us.length = outs.length) (ho : W.ownsRow base 83 3 v2 outs.length us.flatten) (hel : ∀ j (h : j < outs.length) (h' : j < us.length), PbEl W base us[j] outs[j]) (hx : PbEl W base cs x) (hg : (W.alloc o).grownBy W7 v2.ownBlock) (hown : W7.ownsRow base 83 3 u (outs.length + 1) (us.flatten ++ cs)) : RlSt (W7.setCell ⟨fb, 2, none⟩ u) base qb rb fb v0 v1 u ins jobs (outs ++ [x]) := by
 have hr := own_ty ho
 have hf := grown_setR (S := [9, 61, 63, 45, 29]) (k := 2) (u := u) h hg hr (by decide) (by decide)
 have hrb : Blk (W7.setCell ⟨fb, 2, none⟩ u) rb 26 #[.slice none 0 0, .slice none 0 0, .slice none 0 0] := h.rbk.keep hf.1 (fun hm => by
  rcases List.mem_append.1 hm with hm | hm
  ·exact (hr rb (by simpa using hm)).ne h.rbk.ty (by decide) rfl
  ·exact h.ne (List.mem_singleton.1 hm))
 exact ⟨hrb, hf.blk h.qbk (by decide), set3_2 (h.fbk7 hg hr (by decide)), h.ne, h.lo, h.i0.far hf (by decide) (by decide), h.i1.far hf (by decide) (by decide), LstIs.snoc hul (fun j h1 h2 => hel j h1 h2) hx (own_set7R h hg hr (by decide) hown)⟩
end
theorem rd_new {y : World} {base : Nat} {v : Value} {l : List Tk} (h : y.ownsRow base 81 3 v l.length (tsCells l)) (he : EndT l) (hw : AllR l) : RdIs (y.alloc (.cells #[v, .int .i64 0, .int .i64 (-1)] 76)) y.heap.size l none := by
 rcases h.2 with ⟨_, h0⟩ | ⟨g, cap, cur, rfl, hb, hh, h1, h2, h3, h4⟩
 ·have := he.pos; omega
 have hg : g < y.heap.size := (Array.getElem?_eq_some_iff.1 hh).1
 have hk := (Keeps.refl [] y).alloc (.cells #[.slice (some ⟨g, 0, none⟩) l.length cap, .int .i64 0, .int .i64 (-1)] 76)
 obtain ⟨A, c, e, hx⟩ := own_form h
 injection e with e1 e2 e3
 subst e1 e3
 obtain ⟨g', e4, _, hx⟩ := hx he.pos
 injection e4 with e4
 injection e4 with e4
 subst e4
 exact ⟨g, 0, cap, Blk.new _ _ _, ⟨OfTy.keep ⟨_, _, hh⟩ hk (by simp), hg⟩, h1, h2, he, hw, (fun z hz => by cases hz), fun j u hu => by rw [Nat.zero_add]; exact hk.cell_of (hx j u hu) (by simp)⟩
theorem fNeq (a b : Int) (W : World) : (binOp .neq 29 (.agg #[.int .i64 a, .int .i64 b]) (.agg #[.int .i64 0, .int .i64 (-1)])).run Tryz.prog W = .ok (.bool (!(decide (a = 0) && decide (b = -1)))) W := by
 simp [go_sem]
 by_cases h1 : a = 0 <;> by_cases h2 : b = -1 <;> simp [h1, h2, go_sem]
theorem lexGo_err : ∀ (f : Nat) (s : Bs) (i : Nat) (acc : List Tk) (x : Int × Int), lexGo f s i acc = .error x → 0 < x.1 := by
 intro f
 induction f with
 | zero => intro s i acc x h; cases h
 | succ f ih =>
  intro s i acc x h
  cases s with
  | nil => cases h
  | cons c t =>
   rw [lexGo_cons] at h
   split at h
   ·exact ih _ _ _ _ h
   split at h
   ·injection h with h; rw [← h]; exact (by decide : (0 : Int) < 3)
   split at h
   ·injection h with h; rw [← h]; exact (by decide : (0 : Int) < 4)
   exact ih _ _ _ _ h
theorem many_stage {α β : Type} {w : Bs} {one : List Tk → Except (Int × Int) (α × List Tk)} {n : Nat} {q : List Tk} {acc : List α} (F : List α × List Tk → Except (Int × Int) (β × List Tk)) (h : seeP w q = true) (hn : 0 < n) (hl : acc.length ≠ 16) : (manyP w one n q acc >>= F) = (one q >>= fun p => manyP w one (n - 1) p.2 (acc ++ [p.1]) >>= F) := by
 obtain ⟨n, rfl⟩ : ∃ m, n = m + 1 := ⟨n - 1, by omega⟩
 conv => lhs; arg 1; unfold manyP
 rw [h, if_pos rfl, if_neg hl]
 rcases one q with x | ⟨a, r⟩ <;> rfl
def ParR (R : Except (Int × Int) Fl) (base : Nat) (e : Ending) (w' : World) : Prop := match R with
 | .ok f => ∃ v0 v1 v2, e = .returned (.tuple #[.agg #[v0, v1, v2], .agg #[.int .i64 0, .int .i64 (-1)]]) ∧ InsIs w' base v0 f.ins ∧ JobsIs w' base v1 f.jobs ∧ OutsIs w' base v2 f.outs
 | .error x => e = .returned (.tuple #[.agg #[.slice none 0 0, .slice none 0 0, .slice none 0 0], .agg #[.int .i64 x.1, .int .i64 x.2]])
theorem par_res (tmps : Array Value) (rb qb : Nat) (W : World) (a b c : Value) (d e : Int) (h2 : tmps[2]? = some (.pointer (some ⟨rb, 0, none⟩))) (h3 : tmps[3]? = some (.pointer (some ⟨qb, 0, none⟩)))
  (z0 : W.cell? ⟨rb, 0, none⟩ = some a) (z1 : W.cell? ⟨rb, 1, none⟩ = some b) (z2 : W.cell? ⟨rb, 2, none⟩ = some c) (z3 : W.cell? ⟨qb, 0, none⟩ = some (.int .i64 d)) (z4 : W.cell? ⟨qb, 1, none⟩ = some (.int .i64 e)) :
  (results Tryz.f6 tmps).run Tryz.prog W = .ok (.tuple #[.agg #[a, b, c], .agg #[.int .i64 d, .int .i64 e]]) W := by
 simp [results, Tryz.results6, go_sem, h2, h3, z0, z1, z2, z3, z4]
end Go.Proofs.YtnjjajanfedjiaaGreatDoor
namespace Go.Proofs.YtnjjajanfedjiaaGreatDoor
open Go.RowKit Go.BigFrame
attribute [local go_sem] bs_size bs_extract bs_append bs_toList
def ouS4 (at_ : Int) (a b : Bs) : List Tk → Except (Int × Int) (Pb × List Tk) := fun r => mustP [59] r >>= fun r => .ok (⟨at_, a, b⟩, r)
def ouS3 (at_ : Int) (a : Bs) : List Tk → Except (Int × Int) (Pb × List Tk) := fun r => nameP r >>= fun p => ouS4 at_ a p.1 p.2
def ouS2 (at_ : Int) (a : Bs) : List Tk → Except (Int × Int) (Pb × List Tk) := fun r => mustP [61] r >>= ouS3 at_ a
def ouS1 (at_ : Int) : List Tk → Except (Int × Int) (Pb × List Tk) := fun r => nameP r >>= fun p => ouS2 at_ p.1 p.2
def EndR (R : Except (Int × Int) Fl) (f : Fl) : Option (Int × Int) → Prop
 | none => R = .ok f
 | some y => R = .error y
theorem parse_end {l : List Tk} {f : Fl} {q : List Tk} {x : Option (Int × Int)} (h : Rl flowP l none f q x) : EndR (parseT l) f (if (hdT q).kind ≠ 5 then badX x 3 q else x) := by
 cases x with
 | some y =>
  have h2 : flowP l = .error y := h
  have e : (if (hdT q).kind ≠ 5 then badX (some y) 3 q else some y) = some y := by split <;> rfl
  rw [e]
  show parseT l = .error y
  unfold parseT
  rw [h2]
  rfl
 | none =>
  by_cases hk : (hdT q).kind ≠ 5
  ·rw [if_pos hk]
   show parseT l = .error (3, (hdT q).at_)
   unfold parseT
   rw [h.2]
   exact if_pos hk
  ·rw [if_neg hk]
   show parseT l = .ok f
   unfold parseT
   rw [h.2]
   exact if_neg hk
set_option maxRecDepth 100000 in
set_option maxHeartbeats 16000000 in
theorem rParse_any (s : Bs) (hs : s.length ≤ 1000000) (w : World) (hE : FEnv w) (hR : REnv w) :
  Calls Tryz.prog 6 #[.string (bs s)] w fun e w' => ParR (parseF s) w.heap.size e w' ∧ Keeps [] w w' := by
 obtain ⟨i0, hi, hz0, hz1, hz2⟩ := info_parts iinf
 obtain ⟨i1, hj, hy0, hy1, hy2⟩ := info_parts jinf
 obtain ⟨i2, hp, hx0, hx1, hx2⟩ := info_parts pinf
 obtain ⟨R, hRR⟩ : ∃ R, parseF s = R := ⟨_, rfl⟩
 rw [hRR]
 unfold parseF at hRR
 have HR := Lib.hid hRR
 have hE0 : RB w w.heap.size := ⟨w, hE, hR, Keeps.refl _ _, Nat.le_refl _⟩
 have HE0 := Lib.hid hE0
 have hrb := (Blk.new w 26 #[.slice none 0 0, .slice none 0 0, .slice none 0 0]).alloc (.cells #[.int .i64 0, .int .i64 0] 29)
 have hqb := Blk.new (w.alloc (.cells #[.slice none 0 0, .slice none 0 0, .slice none 0 0] 26)) 29 #[.int .i64 0, .int .i64 0]
 rw [fsz] at hqb
 have hk0 := ((Keeps.refl [] w).alloc (.cells #[.slice none 0 0, .slice none 0 0, .slice none 0 0] 26)).alloc (.cells #[.int .i64 0, .int .i64 0] 29)
 have hsz : ((w.alloc (.cells #[.slice none 0 0, .slice none 0 0, .slice none 0 0] 26)).alloc (.cells #[.int .i64 0, .int .i64 0] 29)).heap.size = w.heap.size + 1 + 1 := by rw [fsz, fsz]
 clear hRR hE hR hE0
 go_enter Tryz.func6, Tryz.ntmps6
 go_upto_region 1 with (fail)
 obtain ⟨W2, hW2⟩ : ∃ z, (w.alloc (.cells #[.slice none 0 0, .slice none 0 0, .slice none 0 0] 26)).alloc (.cells #[.int .i64 0, .int .i64 0] 29) = z := ⟨_, rfl⟩
 rw [hW2] at hrb hqb hk0 hsz ⊢
 obtain ⟨qb, hqn⟩ : ∃ z, w.heap.size + 1 = z := ⟨_, rfl⟩
 rw [hqn] at hqb ⊢
 obtain ⟨rb, hrn⟩ : ∃ z, w.heap.size = z := ⟨_, rfl⟩
 have hWr : w.heap.size ≤ rb ∧ w.heap.size ≤ qb ∧ rb ≠ qb ∧ w.heap.size ≤ W2.heap.size := by omega
 have HWR := Lib.hid hWr
 have HSZ : Hid (rb < W2.heap.size ∧ qb < W2.heap.size) := Lib.hid ⟨by omega, by omega⟩
 rw [hrn] at hrb
 try rw [hrn]
 have HRB := Lib.hid hrb
 have HQB := Lib.hid hqb
 have HK0 := Lib.hid hk0
 have HC := Lib.hid (rtokens_any s hs W2 (HE0.out.quiet hk0).renv)
 clear hrb hqb hk0 hsz hW2 hqn hWr hrn
 go_wp2_with fail
 refine HC.out.mono ?_
 rintro ev w3 ⟨ht, hk3⟩
 have HRB3 := Lib.hid (HRB.out.keep hk3 (by simp))
 have HQB3 := Lib.hid (HQB.out.keep hk3 (by simp))
 have HK3 := Lib.hid (HK0.out.trans hk3)
 clear HRB HQB HK0 HC
 rcases hL : lexL s with x | l
 ·skip
  rw [hL] at ht
  have hev : ev = .returned (.tuple #[.slice none 0 0, .agg #[.int .i64 x.1, .int .i64 x.2]]) := ht
  subst hev
  have HX : Hid (R = .error x) := Lib.hid (by rw [← HR.out, hL]; rfl)
  have hx1 : 0 < x.1 := lexGo_err _ _ _ _ _ hL
  obtain ⟨x1, x2⟩ := x
  have hcm := fNeq x1 x2
  rw [decide_eq_false (show ¬ x1 = 0 by have : 0 < x1 := hx1; omega)] at hcm
  have hcm2 : ∀ W, (binOp .neq 29 (.agg #[.int .i64 x1, .int .i64 x2]) (.agg #[.int .i64 0, .int .i64 (-1)])).run Tryz.prog W = .ok (.bool true) W := hcm
  clear ht hL hx1 hcm
  have h5 := Blk.new w3 29 #[.int .i64 x1, .int .i64 x2]
  have hal : Keeps [] w3 (w3.alloc (.cells #[.int .i64 x1, .int .i64 x2] 29)) := (Keeps.refl _ _).alloc _
  have HRB4 := Lib.hid (HRB3.out.keep hal (by simp))
  have HQB4 := Lib.hid (HQB3.out.keep hal (by simp))
  have HK4 := Lib.hid (HK3.out.trans hal)
  obtain ⟨T, hT⟩ : ∃ T, w3.heap.size = T := ⟨_, rfl⟩
  go_upto_region 2 with (fail)
  rw [hT] at h5
  try rw [hT]
  obtain ⟨w4, hw4⟩ : ∃ z, w3.alloc (.cells #[.int .i64 x1, .int .i64 x2] 29) = z := ⟨_, rfl⟩
  rw [hw4] at h5 HRB4 HQB4 HK4 ⊢
  have HT5 := Lib.hid h5
  have t0 : w4.cell? ⟨T, 0, none⟩ = some (.int .i64 x1) := h5.cell 0
  have t1 : w4.cell? ⟨T, 1, none⟩ = some (.int .i64 x2) := h5.cell 1
  have lt := h5.lt
  obtain ⟨q0, q1⟩ := (HE0.out.quiet HK4.out).fine
  have lq := World.block_lt_of_cell? _ _ q0
  have r0 : w4.cell? ⟨rb, 0, none⟩ = some (.slice none 0 0) := HRB4.out.cell 0
  have r1 : w4.cell? ⟨rb, 1, none⟩ = some (.slice none 0 0) := HRB4.out.cell 1
  have r2 : w4.cell? ⟨rb, 2, none⟩ = some (.slice none 0 0) := HRB4.out.cell 2
  have rf0 := HRB4.out.frozen 0
  have rf1 := HRB4.out.frozen 1
  have rf2 := HRB4.out.frozen 2
  have lr := HRB4.out.lt
  have p0 : w4.cell? ⟨qb, 0, none⟩ = some (.int .i64 0) := HQB4.out.cell 0
  have p1 : w4.cell? ⟨qb, 1, none⟩ = some (.int .i64 0) := HQB4.out.cell 1
  have pf0 := HQB4.out.frozen 0
  have pf1 := HQB4.out.frozen 1
  have lp := HQB4.out.lt
  have hne1 := HWR.out.2.2.1
  have hT1 : ¬ T = rb ∧ ¬ rb = T ∧ ¬ T = qb ∧ ¬ qb = T := by have := HSZ.out; have := HRB3.out.lt; have := HQB3.out.lt; omega
  obtain ⟨hT1, hT2, hT3, hT4⟩ := hT1
  clear hal hT h5 hw4 HRB3 HQB3 hk3
  have HRD : Hid (Blk w4.drew rb 26 #[.slice none 0 0, .slice none 0 0, .slice none 0 0]) := Lib.hid HRB4.out
  have HQD : Hid (Blk w4.drew qb 29 #[.int .i64 0, .int .i64 0]) := Lib.hid HQB4.out
  have HKD : Hid (Keeps [] w w4.drew) := Lib.hid (HK4.out.trans (Keeps.refl [] w4).drew)
  go_upto_region 3 with (fail)
  go_region_law (fail)
  all_goals
   go_wp2
   have hr7 := blk_drew (((set3_2 (u := .slice none 0 0) (set3_1 (u := .slice none 0 0) (set3_0 (u := .slice none 0 0) HRB4.out))).far (p := ⟨qb, 0, none⟩) HWR.out.2.2.1 (.int .i64 x1)).far (p := ⟨qb, 1, none⟩) HWR.out.2.2.1 (.int .i64 x2))
   have hq7 := blk_drew (((((HQB4.out.far (p := ⟨rb, 0, none⟩) (Ne.symm HWR.out.2.2.1) (.slice none 0 0)).far (p := ⟨rb, 1, none⟩) (Ne.symm HWR.out.2.2.1) (.slice none 0 0)).far (p := ⟨rb, 2, none⟩) (Ne.symm HWR.out.2.2.1) (.slice none 0 0)).set 0 (.int .i64 x1)).set 1 (.int .i64 x2))
   refine bodyPost_ret (v := .tuple #[.agg #[.slice none 0 0, .slice none 0 0, .slice none 0 0], .agg #[.int .i64 x1, .int .i64 x2]]) (par_res _ rb qb _ (.slice none 0 0) (.slice none 0 0) (.slice none 0 0) (x1) (x2) rfl rfl (hr7.cell 0) (hr7.cell 1) (hr7.cell 2) (hq7.cell 0) (hq7.cell 1)) rfl ?_
   exact ⟨by rw [HX.out]; rfl, (kset (kset (kset (kset (kset HK4.out HWR.out.1 _) HWR.out.1 _) HWR.out.1 _) HWR.out.2.1 _) HWR.out.2.1 _).drew⟩
 ·rw [hL] at ht
  obtain ⟨A, cv, hev, hown⟩ := ht
  subst hev
  have HOWN := Lib.hid hown
  clear hown
  have HLX : Hid (parseT l = R) := Lib.hid (by rw [← HR.out, hL]; rfl)
  have he := (lexL_ok hs hL).1
  have hw := lex_allR hs hL
  have h401 : l.length ≤ 401 := (lexL_ok hs hL).2.2
  have HLL : Hid (l.length ≤ 1000000) := Lib.hid (by omega)
  have hcm : ∀ W, (binOp .neq 29 (.agg #[.int .i64 0, .int .i64 (-1)]) (.agg #[.int .i64 0, .int .i64 (-1)])).run Tryz.prog W = .ok (.bool false) W := fun W => fNeq 0 (-1) W
  have h5 := Blk.new w3 29 #[.int .i64 0, .int .i64 (-1)]
  have hal : Keeps [] w3 (w3.alloc (.cells #[.int .i64 0, .int .i64 (-1)] 29)) := (Keeps.refl _ _).alloc _
  have HRB4 := Lib.hid (HRB3.out.keep hal (by simp))
  have HQB4 := Lib.hid (HQB3.out.keep hal (by simp))
  have HK4 := Lib.hid (HK3.out.trans hal)
  have HO4 := Lib.hid (own_low (HOWN.out.alloc (.cells #[.int .i64 0, .int .i64 (-1)] 29)) HWR.out.2.2.2)
  obtain ⟨T, hT⟩ : ∃ T, w3.heap.size = T := ⟨_, rfl⟩
  go_upto_region 2 with (fail)
  rw [hT] at h5
  try rw [hT]
  obtain ⟨w4, hw4⟩ : ∃ z, w3.alloc (.cells #[.int .i64 0, .int .i64 (-1)] 29) = z := ⟨_, rfl⟩
  rw [hw4] at h5 HRB4 HQB4 HK4 HO4 ⊢
  have HE4 := Lib.hid (HE0.out.quiet HK4.out)
  have t0 : w4.cell? ⟨T, 0, none⟩ = some (.int .i64 0) := h5.cell 0
  have t1 : w4.cell? ⟨T, 1, none⟩ = some (.int .i64 (-1)) := h5.cell 1
  have lt := h5.lt
  obtain ⟨q0, q1⟩ := HE4.out.fine
  have lq := World.block_lt_of_cell? _ _ q0
  have HRD := Lib.hid (rd_new HO4.out he hw)
  have hal5 : Keeps [] w4 (w4.alloc (.cells #[.slice A l.length cv, .int .i64 0, .int .i64 (-1)] 76)) := (Keeps.refl _ _).alloc _
  have hal6 := hal5.alloc (.cells #[.slice none 0 0, .slice none 0 0, .slice none 0 0] 26)
  have hsz6 := fsz w4 (.cells #[.slice A l.length cv, .int .i64 0, .int .i64 (-1)] 76)
  have hfb := Blk.new (w4.alloc (.cells #[.slice A l.length cv, .int .i64 0, .int .i64 (-1)] 76)) 26 #[.slice none 0 0, .slice none 0 0, .slice none 0 0]
  rw [hsz6] at hfb
  have HFB := Lib.hid hfb
  have HAL6 := Lib.hid hal6
  have HLQ6 := Lib.hid hk3
  clear hal hT h5 hw4 hk3 hL he hw h401 hfb hal5 hal6 hsz6
  go_upto_block 0 with (fail)
  have HP : Hid (RdIs ((w4.alloc (.cells #[.slice A l.length cv, .int .i64 0, .int .i64 (-1)] 76)).alloc (.cells #[.slice none 0 0, .slice none 0 0, .slice none 0 0] 26)) w4.heap.size l none) := Lib.hid (HRD.out.keep ((Keeps.refl _ _).alloc _))
  have HS : Hid (RlSt ((w4.alloc (.cells #[.slice A l.length cv, .int .i64 0, .int .i64 (-1)] 76)).alloc (.cells #[.slice none 0 0, .slice none 0 0, .slice none 0 0] 26)) w.heap.size qb rb (w4.heap.size + 1) (.slice none 0 0) (.slice none 0 0) (.slice none 0 0) [] [] []) := Lib.hid ⟨HRB4.out.keep HAL6.out (by simp), HQB4.out.keep HAL6.out (by simp), HFB.out, by have := HRB4.out.lt; omega, by have := HK4.out.size; omega, LstIs.nil, LstIs.nil, LstIs.nil⟩
  have HK : Hid (Keeps [w4.heap.size] w ((w4.alloc (.cells #[.slice A l.length cv, .int .i64 0, .int .i64 (-1)] 76)).alloc (.cells #[.slice none 0 0, .slice none 0 0, .slice none 0 0] 26))) := Lib.hid (HK4.out.trans HAL6.out).of_nil
  have hbw : w.heap.size ≤ w4.heap.size := HK4.out.size
  obtain ⟨y0, hy0⟩ : ∃ z, (w4.alloc (.cells #[.slice A l.length cv, .int .i64 0, .int .i64 (-1)] 76)).alloc (.cells #[.slice none 0 0, .slice none 0 0, .slice none 0 0] 26) = z := ⟨_, rfl⟩
  rw [hy0] at HP HS HK ⊢
  obtain ⟨fb, hfbn⟩ : ∃ z, w4.heap.size + 1 = z := ⟨_, rfl⟩
  rw [hfbn] at HS ⊢
  obtain ⟨b, hbn⟩ : ∃ z, w4.heap.size = z := ⟨_, rfl⟩
  rw [hbn] at HP HK hbw
  try rw [hbn]
  have HBW := Lib.hid hbw
  have hlo : w.heap.size ≤ b := hbw
  have HIM : Hid (∀ f l' x', Rl (fun r => manyP [105, 110] inputP r.length r [] >>= flow1) l none f l' x' → Rl flowP l none f l' x') := Lib.hid (fun f l' x' hq => Rl.congr (flowP_eq l) hq)
  clear HRD HAL6 HFB HLQ6 HOWN hy0 hfbn hbn t0 t1 lt q0 q1 lq HRB4 HQB4 HK4 HO4 HE4 HRB3 HQB3 HK3 hbw
  go_upto_block 0 with (fail)
  go_cut [] (fun wx => ∃ (v0 : Value) (ins : List In) (q : List Tk) (x1 : Option (Int × Int)), Hid (∀ f l' x', Rl (fun r => flow1 (ins, r)) q x1 f l' x' → Rl flowP l none f l' x') ∧ Hid (q.length ≤ 1000000) ∧ Hid (RlSt wx w.heap.size qb rb fb v0 (.slice none 0 0) (.slice none 0 0) ins [] []) ∧ Hid (RdIs wx b q x1) ∧ Hid (Keeps [b] w wx))
  case first =>
   go_wp2_with fail
   go_loopw [] (fun wx => ∃ (v0 : Value) (ins : List In) (q : List Tk) (n : Nat) (x1 : Option (Int × Int)), Hid (∀ f l' x', Rl (fun r => manyP [105, 110] inputP n r ins >>= flow1) q x1 f l' x' → Rl flowP l none f l' x') ∧ Hid (q.length ≤ n) ∧ Hid (q.length ≤ 1000000) ∧ Hid (ins.length ≤ 16) ∧ Hid (RlSt wx w.heap.size qb rb fb v0 (.slice none 0 0) (.slice none 0 0) ins [] []) ∧ Hid (RdIs wx b q x1) ∧ Hid (Keeps [b] w wx)) (fun wx => leftT b wx)
   case atStart => exact ⟨_, [], l, l.length, none, HIM, Lib.hid (Nat.le_refl _), HLL, Lib.hid (by simp), HS, HP, HK⟩
   case round =>
    clear HS HP HK HIM
    obtain ⟨v0, ins, q, n, x1, HIM, HQN, HQL, HCN, HS, HP, HK⟩ := hrel
    obtain ⟨y, rfl⟩ : ∃ y : World, y = wr := ⟨_, rfl⟩
    have HM := Lib.hid HP.out.left
    have HEY := Lib.hid (HE0.out.one hlo HK.out)
    have HT := rsee_any [105, 110] y HEY.out.fine HP.out
    cases hs : (x1.isNone && seeP [105, 110] q) with
    | false =>
     rw [hs] at HT
     have HT1 := Lib.hid HT
     have HRR : Hid (∀ f l' x', Rl (fun r => flow1 (ins, r)) q x1 f l' x' → Rl flowP l none f l' x') := Lib.hid (fun f l' x' hq => HIM.out f l' x' (by
      cases x1 with
      | some y => have := Rl.dead hq; subst this; exact rfl
      | none =>
       have hs' : seeP [105, 110] q = false := hs
       exact Rl.congr (by rw [many_no hs']; rfl) hq))
     clear HT hs
     go_wp2_with fail
     refine HT1.out.mono ?_
     rintro ev w3 ⟨rfl, hk⟩
     have HS2 := Lib.hid (HS.out.keep hk)
     have HP2 := Lib.hid (HP.out.keep hk)
     have HK2 := Lib.hid (HK.out.trans hk.of_nil)
     clear hk HT1
     go_wp2
     go_meet
     exact ⟨_, ins, q, x1, HRR, HQL, HS2, HP2, HK2⟩
    | true =>
     rw [hs] at HT
     have HT1 := Lib.hid HT
     have hxn : x1 = none ∧ seeP [105, 110] q = true := by
      cases x1 with
      | some y => cases hs
      | none => exact ⟨rfl, hs⟩
     obtain ⟨rfl, hse⟩ := hxn
     have HSE := Lib.hid hse
     clear HT hs hse
     go_wp2_with fail
     refine HT1.out.mono ?_
     rintro ev w3 ⟨rfl, hk⟩
     have HS' := Lib.hid (HS.out.keep hk)
     have HP' := Lib.hid (HP.out.keep hk)
     have HK' := Lib.hid (HK.out.trans hk.of_nil)
     have HE' := Lib.hid (HEY.out.quiet hk)
     clear HS HP HK HEY HT1 hk
     have HS := HS'
     have HP := HP'
     have HK := HK'
     have HEY := HE'
     clear HS' HP' HK' HE'
     obtain ⟨y, rfl⟩ : ∃ y : World, y = w3 := ⟨_, rfl⟩
     have hq1 := HP.out.endT.pos
     have HN0 : Hid (0 < n) := Lib.hid (by have := HQN.out; omega)
     have lf := HS.out.fbk.lt
     obtain ⟨us, hul, how, hel⟩ := HS.out.i0
     obtain ⟨A, cv, rfl, -⟩ := own_form how
     have HOW := Lib.hid how
     have HUL := Lib.hid hul
     have HEL := Lib.hid hel
     have HKY := HK
     have f0 : y.cell? ⟨fb, 0, none⟩ = some (.slice A ins.length cv) := HS.out.fbk.cell 0
     have hcn := HCN.out
     clear how hul hel hq1
     by_cases h16 : ins.length = 16
     ·have t16 : (16 : Int) ≤ (ins.length : Int) := by omega
      have HX : Hid (∀ f l' x', Rl (fun r => flow1 (ins, r)) q (badX none 4 q) f l' x' → Rl flowP l none f l' x') := Lib.hid (fun f l' x' hq => HIM.out f l' x' (by
       have := Rl.dead hq
       subst this
       show (manyP [105, 110] inputP n q ins >>= _) = _
       rw [many_full HSE.out HN0.out h16]
       rfl))
      clear h16 hcn
      go_wp2_with fail
      refine (rfails_any 4 (by decide) y HEY.out.fine HP.out).mono ?_
      rintro ev w4 ⟨rfl, hp, hk⟩
      have HS2 := Lib.hid (HS.out.rd HP.out hk)
      have HK2 := Lib.hid (HK.out.trans hk)
      have HP2 := Lib.hid hp
      clear hp hk
      go_wp2
      go_meet
      exact ⟨_, ins, q, _, HX, HQL, HS2, HP2, HK2⟩
     ·have t16 : ¬ (16 : Int) ≤ (ins.length : Int) := by omega
      have fS : y.cell? ⟨fb, 0, none⟩ = some (.slice A ins.length cv) ∧ y.frozen? ⟨fb, 0, none⟩ = false := ⟨f0, HS.out.fbk.frozen 0⟩
      have hbd := Lib.hid (show ins.length + 1 ≤ maxLen ∧ (ins.length + 1) * 48 ≤ 140737488355328 by simp only [maxLen]; omega)
      have HNE : Hid (fb ∉ [b]) := Lib.hid (by have := HS.out.fbk.ty.ne HP.out.ty (by decide); simpa using this)
      have HRR : Hid (∀ x r x2, Rl inputP q none x r x2 → (∀ f l' x', Rl (fun r => manyP [105, 110] inputP (n - 1) r (ins ++ [x]) >>= flow1) r x2 f l' x' → Rl flowP l none f l' x')) := Lib.hid (fun x r x2 hr6 f l' x' hq => HIM.out f l' x' (Rl.congr (many_stage _ HSE.out HN0.out h16) (Rl.bind (Q := fun x r => manyP [105, 110] inputP (n - 1) r (ins ++ [x]) >>= flow1) hr6 hq)))
      have HC : Hid (∀ W, Keeps [] y W → Calls Tryz.prog 29 #[.pointer (some ⟨b, 0, none⟩)] W fun e w' => (∃ (x : In) (v : Value) (l' : List Tk) (x' : Option (Int × Int)), e = .returned (.agg #[.int .i64 x.at_, .string (bs x.name), v]) ∧ w'.ownsRow w.heap.size 61 2 v x.cols.length (csCells x.cols) ∧ RdIs w' b l' x' ∧ Rl inputP q none x l' x' ∧ l'.length < q.length) ∧ Keeps [b] W w') := Lib.hid (fun W z => (rinput_any W (HEY.out.quiet z) hlo (HP.out.keep z) (HQL.out)).mono (fun e w' ⟨x, v, l', x', h1, h2, h3, h4, h5, h6, h7⟩ => ⟨⟨x, v, l', x', h1, own_low h2 (Nat.le_trans HKY.out.size z.size), h3, h4, h6 rfl HSE.out⟩, h7⟩))
      have HL1 : Hid (∀ x, (ins ++ [x]).length ≤ 16) := Lib.hid (fun x => by simp; omega)
      clear h16 hcn
      go_upto_region 9 with (fail)
      go_region_law (first | (refine step_append_lies _ (by rfl) _ _ _ (by rfl) w.heap.size 63 i0 _ 3 48 Tryz.underlying22 hi hz0 hz1 hz2 rfl (by decide) (.slice A ins.length cv) ins.length us.flatten (by rfl) ((own_far' HOW.out hk6.undrew (fun z hz => ⟨76, by rw [List.mem_singleton.1 hz]; exact HP.out.ty, by decide⟩)).alloc _) ⟨w6.heap.size, 0, none⟩ 1 1 ([.int .i64 x.at_, .string (bs x.name), .slice Av x.cols.length cvv]) (by rfl) rfl (World.news_of_block (heap_alloc_new _ _)) (by simp [Value.oneCell']) (by decide) hbd.out.1 hbd.out.2 (by have := HKY.out.size; have := hk6.size; have h9 : y.drew.heap.size = y.heap.size := rfl; simp; omega) _ rfl ?_; intro gw cap w7 hown7 hgrow7 hat7 hlt7; obtain ⟨fS7, fZ7⟩ := fld_grown hgrow7 (fld_alloc ⟨fS6, fZ6⟩ _) (fun e => (own_ty (own_far' HOW.out hk6.undrew (fun z hz => ⟨76, by rw [List.mem_singleton.1 hz]; exact HP.out.ty, by decide⟩)) fb e).ne (HS.out.rd HP.out hk6.undrew).fbk.ty (by decide) rfl); have gl7 : fb < w7.heap.size := World.block_lt_of_cell? w7 ⟨fb, 0, none⟩ fS7) | (go_simp; go_at_call 29; refine (HC.out _ (Keeps.refl [] y).drew).mono ?_; rintro e w6 ⟨⟨x, v, r, x2, rfl, hov, hp6, hr6, hlt6⟩, hk6⟩; obtain ⟨Av, cvv, rfl, -⟩ := own_form hov; obtain ⟨fS6, fZ6⟩ := fld_keeps hk6 fS HNE.out; have gl6 : fb < w6.heap.size := World.block_lt_of_cell? w6 ⟨fb, 0, none⟩ fS6))
      all_goals
       have HS6 := HS.out.rd HP.out hk6.undrew
       have HO6 := (own_far' HOW.out hk6.undrew (fun z hz => ⟨76, by rw [List.mem_singleton.1 hz]; exact HP.out.ty, by decide⟩))
       have HEL6 := fun j h1 h2 => InEl.far (S := flTysR) ⟨hk6.undrew, fun z hz => ⟨76, by rw [List.mem_singleton.1 hz]; exact HP.out.ty, by decide⟩⟩ (by decide) _ _ (HEL.out j h1 h2)
       have hr7 := own_ty HO6
       have HK6 := HK.out.trans hk6.undrew
       have HS7 := Lib.hid (RlSt.app0 HS6 HUL.out HO6 HEL6 ⟨_, rfl, hov⟩ hgrow7 hown7)
       have HP7 := Lib.hid (rd7 (k := 0) (u := .slice (some ⟨gw, 0, none⟩) (ins.length + 1) cap) HS6 hp6 hgrow7 hr7 (by decide) (by decide))
       have HK7 := Lib.hid (RlSt.keeps7 (k := 0) (u := .slice (some ⟨gw, 0, none⟩) (ins.length + 1) cap) HS6 HK6 hgrow7 (fun z hz => (HOW.out.lt z hz).1))
       have HR7 := Lib.hid (HRR.out _ _ _ hr6)
       have HLE := Lib.hid hlt6
       clear HS6 HO6 HEL6 hr7 HK6
       go_wp2
       go_roundw
       case rel => exact ⟨_, ins ++ [x], r, n - 1, x2, HR7, Lib.hid (by have := HLE.out; have := HQN.out; omega), Lib.hid (by have := HLE.out; have := HQL.out; omega), Lib.hid (HL1.out x), HS7, HP7, HK7⟩
       case measure => rw [HP7.out.left, HM.out]; exact HLE.out
  case rest =>
   clear HS HP HK HIM
   obtain ⟨v0, ins, q1, x1, HIM, HQL1, HS, HP, HK⟩ := hcut
   obtain ⟨y1, rfl⟩ : ∃ y : World, y = wc := ⟨_, rfl⟩
   go_upto_block 2 with (fail)
   go_cut [] (fun wx => ∃ (v1 : Value) (jobs : List Jb) (q : List Tk) (x1 : Option (Int × Int)), Hid (∀ f l' x', Rl (fun r => flow2 ins (jobs, r)) q x1 f l' x' → Rl flowP l none f l' x') ∧ Hid (q.length ≤ 1000000) ∧ Hid (RlSt wx w.heap.size qb rb fb v0 v1 (.slice none 0 0) ins jobs []) ∧ Hid (RdIs wx b q x1) ∧ Hid (Keeps [b] w wx))
   case first =>
    go_wp2_with fail
    go_loopw [] (fun wx => ∃ (v1 : Value) (jobs : List Jb) (q : List Tk) (n : Nat) (x1 : Option (Int × Int)), Hid (∀ f l' x', Rl (fun r => manyP [106, 111, 98] jobP n r jobs >>= flow2 ins) q x1 f l' x' → Rl flowP l none f l' x') ∧ Hid (q.length ≤ n) ∧ Hid (q.length ≤ 1000000) ∧ Hid (jobs.length ≤ 16) ∧ Hid (RlSt wx w.heap.size qb rb fb v0 v1 (.slice none 0 0) ins jobs []) ∧ Hid (RdIs wx b q x1) ∧ Hid (Keeps [b] w wx)) (fun wx => leftT b wx)
    case atStart => exact ⟨_, [], q1, q1.length, x1, Lib.hid (fun f l' x' hq => HIM.out f l' x' (Rl.congr rfl hq)), Lib.hid (Nat.le_refl _), HQL1, Lib.hid (by simp), HS, HP, HK⟩
    case round =>
     clear HS HP HK HIM
     obtain ⟨v1, jobs, q, n, x1, HIM, HQN, HQL, HCN, HS, HP, HK⟩ := hrel
     obtain ⟨y, rfl⟩ : ∃ y : World, y = wr := ⟨_, rfl⟩
     have HM := Lib.hid HP.out.left
     have HEY := Lib.hid (HE0.out.one hlo HK.out)
     have HT := rsee_any [106, 111, 98] y HEY.out.fine HP.out
     cases hs : (x1.isNone && seeP [106, 111, 98] q) with
     | false =>
      rw [hs] at HT
      have HT1 := Lib.hid HT
      have HRR : Hid (∀ f l' x', Rl (fun r => flow2 ins (jobs, r)) q x1 f l' x' → Rl flowP l none f l' x') := Lib.hid (fun f l' x' hq => HIM.out f l' x' (by
       cases x1 with
       | some y => have := Rl.dead hq; subst this; exact rfl
       | none =>
        have hs' : seeP [106, 111, 98] q = false := hs
        exact Rl.congr (by rw [many_no hs']; rfl) hq))
      clear HT hs
      go_wp2_with fail
      refine HT1.out.mono ?_
      rintro ev w3 ⟨rfl, hk⟩
      have HS2 := Lib.hid (HS.out.keep hk)
      have HP2 := Lib.hid (HP.out.keep hk)
      have HK2 := Lib.hid (HK.out.trans hk.of_nil)
      clear hk HT1
      go_wp2
      go_meet
      exact ⟨_, jobs, q, x1, HRR, HQL, HS2, HP2, HK2⟩
     | true =>
      rw [hs] at HT
      have HT1 := Lib.hid HT
      have hxn : x1 = none ∧ seeP [106, 111, 98] q = true := by
       cases x1 with
       | some y => cases hs
       | none => exact ⟨rfl, hs⟩
      obtain ⟨rfl, hse⟩ := hxn
      have HSE := Lib.hid hse
      clear HT hs hse
      go_wp2_with fail
      refine HT1.out.mono ?_
      rintro ev w3 ⟨rfl, hk⟩
      have HS' := Lib.hid (HS.out.keep hk)
      have HP' := Lib.hid (HP.out.keep hk)
      have HK' := Lib.hid (HK.out.trans hk.of_nil)
      have HE' := Lib.hid (HEY.out.quiet hk)
      clear HS HP HK HEY HT1 hk
      have HS := HS'
      have HP := HP'
      have HK := HK'
      have HEY := HE'
      clear HS' HP' HK' HE'
      obtain ⟨y, rfl⟩ : ∃ y : World, y = w3 := ⟨_, rfl⟩
      have hq1 := HP.out.endT.pos
      have HN0 : Hid (0 < n) := Lib.hid (by have := HQN.out; omega)
      have lf := HS.out.fbk.lt
      obtain ⟨us, hul, how, hel⟩ := HS.out.i1
      obtain ⟨A, cv, rfl, -⟩ := own_form how
      have HOW := Lib.hid how
      have HUL := Lib.hid hul
      have HEL := Lib.hid hel
      have HKY := HK
      have f0 : y.cell? ⟨fb, 1, none⟩ = some (.slice A jobs.length cv) := HS.out.fbk.cell 1
      have hcn := HCN.out
      clear how hul hel hq1
      by_cases h16 : jobs.length = 16
      ·have t16 : (16 : Int) ≤ (jobs.length : Int) := by omega
       have HX : Hid (∀ f l' x', Rl (fun r => flow2 ins (jobs, r)) q (badX none 4 q) f l' x' → Rl flowP l none f l' x') := Lib.hid (fun f l' x' hq => HIM.out f l' x' (by
        have := Rl.dead hq
        subst this
        show (manyP [106, 111, 98] jobP n q jobs >>= _) = _
        rw [many_full HSE.out HN0.out h16]
        rfl))
       clear h16 hcn
       go_wp2_with fail
       refine (rfails_any 4 (by decide) y HEY.out.fine HP.out).mono ?_
       rintro ev w4 ⟨rfl, hp, hk⟩
       have HS2 := Lib.hid (HS.out.rd HP.out hk)
       have HK2 := Lib.hid (HK.out.trans hk)
       have HP2 := Lib.hid hp
       clear hp hk
       go_wp2
       go_meet
       exact ⟨_, jobs, q, _, HX, HQL, HS2, HP2, HK2⟩
      ·have t16 : ¬ (16 : Int) ≤ (jobs.length : Int) := by omega
       have fS : y.cell? ⟨fb, 1, none⟩ = some (.slice A jobs.length cv) ∧ y.frozen? ⟨fb, 1, none⟩ = false := ⟨f0, HS.out.fbk.frozen 1⟩
       have hbd := Lib.hid (show jobs.length + 1 ≤ maxLen ∧ (jobs.length + 1) * 208 ≤ 140737488355328 by simp only [maxLen]; omega)
       have HNE : Hid (fb ∉ [b]) := Lib.hid (by have := HS.out.fbk.ty.ne HP.out.ty (by decide); simpa using this)
       have HRR : Hid (∀ x r x2, Rl jobP q none x r x2 → (∀ f l' x', Rl (fun r => manyP [106, 111, 98] jobP (n - 1) r (jobs ++ [x]) >>= flow2 ins) r x2 f l' x' → Rl flowP l none f l' x')) := Lib.hid (fun x r x2 hr6 f l' x' hq => HIM.out f l' x' (Rl.congr (many_stage _ HSE.out HN0.out h16) (Rl.bind (Q := fun x r => manyP [106, 111, 98] jobP (n - 1) r (jobs ++ [x]) >>= flow2 ins) hr6 hq)))
       have HC : Hid (∀ W, Keeps [] y W → Calls Tryz.prog 30 #[.pointer (some ⟨b, 0, none⟩)] W fun e w' => (∃ (x : Jb) (w2 w3 w4 : Value) (l' : List Tk) (x' : Option (Int × Int)), e = .returned (.agg #[.int .i64 x.at_, .int .i64 x.code, w2, w3, w4, .string (bs x.op), .string (bs x.left.col), .int .i64 x.left.val.kind, .int .i64 x.left.val.num, .string (bs x.left.val.word), .string (bs x.right.col), .int .i64 x.right.val.kind, .int .i64 x.right.val.num, .string (bs x.right.val.word), .int .i64 x.retry]) ∧ JRows w' w.heap.size x w2 w3 w4 ∧ RdIs w' b l' x' ∧ Rl jobP q none x l' x' ∧ l'.length < q.length) ∧ Keeps [b] W w') := Lib.hid (fun W z => (rjob_any W (HEY.out.quiet z) hlo (HP.out.keep z) (HQL.out)).mono (fun e w' ⟨x, v2, v3, v4, l', x', h1, h2, h3, h4, h5, h6, h7⟩ => ⟨⟨x, v2, v3, v4, l', x', h1, ⟨own_low h2.o2 (Nat.le_trans HKY.out.size z.size), own_low h2.o3 (Nat.le_trans HKY.out.size z.size), own_low h2.o4 (Nat.le_trans HKY.out.size z.size)⟩, h3, h4, h6 rfl HSE.out⟩, h7⟩))
       have HL1 : Hid (∀ x, (jobs ++ [x]).length ≤ 16) := Lib.hid (fun x => by simp; omega)
       clear h16 hcn
       go_upto_region 13 with (fail)
       go_region_law (first | (refine step_append_lies _ (by rfl) _ _ _ (by rfl) w.heap.size 45 i1 _ 15 208 Tryz.underlying23 hj hy0 hy1 hy2 rfl (by decide) (.slice A jobs.length cv) jobs.length us.flatten (by rfl) ((own_far' HOW.out hk6.undrew (fun z hz => ⟨76, by rw [List.mem_singleton.1 hz]; exact HP.out.ty, by decide⟩)).alloc _) ⟨w6.heap.size, 0, none⟩ 1 1 ([.int .i64 x.at_, .int .i64 x.code, .slice B2 x.outs.length d2, .slice B3 x.ins.length d3, .slice B4 x.cols.length d4, .string (bs x.op), .string (bs x.left.col), .int .i64 x.left.val.kind, .int .i64 x.left.val.num, .string (bs x.left.val.word), .string (bs x.right.col), .int .i64 x.right.val.kind, .int .i64 x.right.val.num, .string (bs x.right.val.word), .int .i64 x.retry]) (by rfl) rfl (World.news_of_block (heap_alloc_new _ _)) (by simp [Value.oneCell']) (by decide) hbd.out.1 hbd.out.2 (by have := HKY.out.size; have := hk6.size; have h9 : y.drew.heap.size = y.heap.size := rfl; simp; omega) _ rfl ?_; intro gw cap w7 hown7 hgrow7 hat7 hlt7; obtain ⟨fS7, fZ7⟩ := fld_grown hgrow7 (fld_alloc ⟨fS6, fZ6⟩ _) (fun e => (own_ty (own_far' HOW.out hk6.undrew (fun z hz => ⟨76, by rw [List.mem_singleton.1 hz]; exact HP.out.ty, by decide⟩)) fb e).ne (HS.out.rd HP.out hk6.undrew).fbk.ty (by decide) rfl); have gl7 : fb < w7.heap.size := World.block_lt_of_cell? w7 ⟨fb, 1, none⟩ fS7) | (go_simp; go_at_call 30; refine (HC.out _ (Keeps.refl [] y).drew).mono ?_; rintro e w6 ⟨⟨x, w2, w3, w4, r, x2, rfl, hrows, hp6, hr6, hlt6⟩, hk6⟩; obtain ⟨B2, d2, rfl, -⟩ := own_form hrows.o2; obtain ⟨B3, d3, rfl, -⟩ := own_form hrows.o3; obtain ⟨B4, d4, rfl, -⟩ := own_form hrows.o4; obtain ⟨fS6, fZ6⟩ := fld_keeps hk6 fS HNE.out; have gl6 : fb < w6.heap.size := World.block_lt_of_cell? w6 ⟨fb, 1, none⟩ fS6))
       all_goals
        have HS6 := HS.out.rd HP.out hk6.undrew
        have HO6 := (own_far' HOW.out hk6.undrew (fun z hz => ⟨76, by rw [List.mem_singleton.1 hz]; exact HP.out.ty, by decide⟩))
        have HEL6 := fun j h1 h2 => JbEl.far (S := flTysR) ⟨hk6.undrew, fun z hz => ⟨76, by rw [List.mem_singleton.1 hz]; exact HP.out.ty, by decide⟩⟩ (by decide) _ _ (HEL.out j h1 h2)
        have hr7 := own_ty HO6
        have HK6 := HK.out.trans hk6.undrew
        have HS7 := Lib.hid (RlSt.app1 HS6 HUL.out HO6 HEL6 ⟨_, _, _, rfl, hrows⟩ hgrow7 hown7)
        have HP7 := Lib.hid (rd7 (k := 1) (u := .slice (some ⟨gw, 0, none⟩) (jobs.length + 1) cap) HS6 hp6 hgrow7 hr7 (by decide) (by decide))
        have HK7 := Lib.hid (RlSt.keeps7 (k := 1) (u := .slice (some ⟨gw, 0, none⟩) (jobs.length + 1) cap) HS6 HK6 hgrow7 (fun z hz => (HOW.out.lt z hz).1))
        have HR7 := Lib.hid (HRR.out _ _ _ hr6)
        have HLE := Lib.hid hlt6
        clear HS6 HO6 HEL6 hr7 HK6
        go_wp2
        go_roundw
        case rel => exact ⟨_, jobs ++ [x], r, n - 1, x2, HR7, Lib.hid (by have := HLE.out; have := HQN.out; omega), Lib.hid (by have := HLE.out; have := HQL.out; omega), Lib.hid (HL1.out x), HS7, HP7, HK7⟩
        case measure => rw [HP7.out.left, HM.out]; exact HLE.out
   case rest =>
    clear HS HP HK HIM
    obtain ⟨v1, jobs, q2, x2, HIM, HQL2, HS, HP, HK⟩ := hcut
    obtain ⟨y2, rfl⟩ : ∃ y : World, y = wc := ⟨_, rfl⟩
    go_upto_block 4 with (fail)
    go_cut [] (fun wx => ∃ (v2 : Value) (outs : List Pb) (q : List Tk) (x1 : Option (Int × Int)), Hid (∀ f l' x', Rl (fun r => flow3 ins jobs (outs, r)) q x1 f l' x' → Rl flowP l none f l' x') ∧ Hid (RlSt wx w.heap.size qb rb fb v0 v1 v2 ins jobs outs) ∧ Hid (RdIs wx b q x1) ∧ Hid (Keeps [b] w wx))
    case first =>
     go_wp2_with fail
     go_loopw [] (fun wx => ∃ (v2 : Value) (outs : List Pb) (q : List Tk) (n : Nat) (x1 : Option (Int × Int)), Hid (∀ f l' x', Rl (fun r => manyP [111, 117, 116] outP n r outs >>= flow3 ins jobs) q x1 f l' x' → Rl flowP l none f l' x') ∧ Hid (q.length ≤ n) ∧ Hid (q.length ≤ 1000000) ∧ Hid (outs.length ≤ 16) ∧ Hid (RlSt wx w.heap.size qb rb fb v0 v1 v2 ins jobs outs) ∧ Hid (RdIs wx b q x1) ∧ Hid (Keeps [b] w wx)) (fun wx => leftT b wx)
     case atStart => exact ⟨_, [], q2, q2.length, x2, Lib.hid (fun f l' x' hq => HIM.out f l' x' (Rl.congr rfl hq)), Lib.hid (Nat.le_refl _), HQL2, Lib.hid (by simp), HS, HP, HK⟩
     case round =>
      clear HS HP HK HIM
      obtain ⟨v2, outs, q, n, x1, HIM, HQN, HQL, HCN, HS, HP, HK⟩ := hrel
      obtain ⟨y, rfl⟩ : ∃ y : World, y = wr := ⟨_, rfl⟩
      have HM := Lib.hid HP.out.left
      have HEY := Lib.hid (HE0.out.one hlo HK.out)
      have HT := rsee_any [111, 117, 116] y HEY.out.fine HP.out
      cases hs : (x1.isNone && seeP [111, 117, 116] q) with
      | false =>
       rw [hs] at HT
       have HT1 := Lib.hid HT
       have HRR : Hid (∀ f l' x', Rl (fun r => flow3 ins jobs (outs, r)) q x1 f l' x' → Rl flowP l none f l' x') := Lib.hid (fun f l' x' hq => HIM.out f l' x' (by
        cases x1 with
        | some y => have := Rl.dead hq; subst this; exact rfl
        | none =>
         have hs' : seeP [111, 117, 116] q = false := hs
         exact Rl.congr (by rw [many_no hs']; rfl) hq))
       clear HT hs
       go_wp2_with fail
       refine HT1.out.mono ?_
       rintro ev w3 ⟨rfl, hk⟩
       have HS2 := Lib.hid (HS.out.keep hk)
       have HP2 := Lib.hid (HP.out.keep hk)
       have HK2 := Lib.hid (HK.out.trans hk.of_nil)
       clear hk HT1
       go_wp2
       go_meet
       exact ⟨_, outs, q, x1, HRR, HS2, HP2, HK2⟩
      | true =>
       rw [hs] at HT
       have HT1 := Lib.hid HT
       have hxn : x1 = none ∧ seeP [111, 117, 116] q = true := by
        cases x1 with
        | some y => cases hs
        | none => exact ⟨rfl, hs⟩
       obtain ⟨rfl, hse⟩ := hxn
       have HSE := Lib.hid hse
       clear HT hs hse
       go_wp2_with fail
       refine HT1.out.mono ?_
       rintro ev w3 ⟨rfl, hk⟩
       have HS' := Lib.hid (HS.out.keep hk)
       have HP' := Lib.hid (HP.out.keep hk)
       have HK' := Lib.hid (HK.out.trans hk.of_nil)
       have HE' := Lib.hid (HEY.out.quiet hk)
       clear HS HP HK HEY HT1 hk
       have HS := HS'
       have HP := HP'
       have HK := HK'
       have HE := HE'
       clear HS' HP' HK' HE'
       obtain ⟨y, rfl⟩ : ∃ y : World, y = w3 := ⟨_, rfl⟩
       have hq1 := HP.out.endT.pos
       have HN0 : Hid (0 < n) := Lib.hid (by have := HQN.out; omega)
       have lf := HS.out.fbk.lt
       obtain ⟨us, hul, how, hel⟩ := HS.out.i2
       obtain ⟨A, cv, rfl, -⟩ := own_form how
       have HOW := Lib.hid how
       have HUL := Lib.hid hul
       have f0 : y.cell? ⟨fb, 2, none⟩ = some (.slice A outs.length cv) := HS.out.fbk.cell 2
       have hcn := HCN.out
       clear how hul hel hq1
       by_cases h16 : outs.length = 16
       ·have t16 : (16 : Int) ≤ (outs.length : Int) := by omega
        have HX : Hid (∀ f l' x', Rl (fun r => flow3 ins jobs (outs, r)) q (badX none 4 q) f l' x' → Rl flowP l none f l' x') := Lib.hid (fun f l' x' hq => HIM.out f l' x' (by
         have := Rl.dead hq
         subst this
         show (manyP [111, 117, 116] outP n q outs >>= _) = _
         rw [many_full HSE.out HN0.out h16]
         rfl))
        clear h16 hcn
        go_wp2_with fail
        refine (rfails_any 4 (by decide) y HE.out.fine HP.out).mono ?_
        rintro ev w4 ⟨rfl, hp, hk⟩
        have HS2 := Lib.hid (HS.out.rd HP.out hk)
        have HK2 := Lib.hid (HK.out.trans hk)
        have HP2 := Lib.hid hp
        clear hp hk
        go_wp2
        go_meet
        exact ⟨_, outs, q, _, HX, HS2, HP2, HK2⟩
       ·have t16 : ¬ (16 : Int) ≤ (outs.length : Int) := by omega
        have hbd := Lib.hid (show outs.length + 1 ≤ maxLen ∧ (outs.length + 1) * 40 ≤ 140737488355328 by simp only [maxLen]; omega)
        have HRR : Hid (∀ x r x2, Rl outP q none x r x2 → (∀ f l' x', Rl (fun r => manyP [111, 117, 116] outP (n - 1) r (outs ++ [x]) >>= flow3 ins jobs) r x2 f l' x' → Rl flowP l none f l' x')) := Lib.hid (fun x r x2 hr6 f l' x' hq => HIM.out f l' x' (Rl.congr (many_stage _ HSE.out HN0.out h16) (Rl.bind (Q := fun x r => manyP [111, 117, 116] outP (n - 1) r (outs ++ [x]) >>= flow3 ins jobs) hr6 hq)))
        have HL1 : Hid (∀ x, (outs ++ [x]).length ≤ 16) := Lib.hid (fun x => by simp; omega)
        obtain ⟨at_, hat⟩ : ∃ a, (hdT q).at_ = a := ⟨_, rfl⟩
        have HIM0 := HIM
        clear HIM
        have HIM : Hid (∀ i l' x', Rl (fun r => mustP [111, 117, 116] r >>= ouS1 at_) q none i l' x' → Rl outP q none i l' x') := Lib.hid (fun i l' x' hq => Rl.congr (by rw [← hat]; rfl) hq)
        obtain ⟨g, o, c, c0, c1, c2, -, lb, lg, -, hn, hc, hc2, k0, k1, k2, -⟩ := HP.out.open'
        rw [hat] at k2
        have hn2 : (0 : Int) < (q.length : Int) := by omega
        clear h16 hcn hat
        go_upto_region 18 with (fail)
        have hxn := Blk.new y 83 #[.int .i64 at_, .string ⟨#[]⟩, .string ⟨#[]⟩]
        have hk1 := (Keeps.refl [] y).alloc (.cells #[.int .i64 at_, .string ⟨#[]⟩, .string ⟨#[]⟩] 83)
        have HP' := Lib.hid (HP.out.keep hk1)
        have HS' := Lib.hid (HS.out.keep hk1)
        have HK' := Lib.hid (HK.out.trans hk1.of_nil)
        have HE' := Lib.hid (HE.out.quiet hk1)
        have HXW : Hid (w.heap.size ≤ y.heap.size ∧ fb ≠ y.heap.size ∧ rb ≠ y.heap.size ∧ qb ≠ y.heap.size ∧ ∀ g, (Value.slice A outs.length cv).ownBlock = some g → g < y.heap.size) := Lib.hid ⟨HK.out.size, by omega, by have := HS.out.rbk.lt; omega, by have := HS.out.qbk.lt; omega, fun g hg => (HOW.out.lt g hg).2⟩
        obtain ⟨xb, hxb⟩ : ∃ x, y.heap.size = x := ⟨_, rfl⟩
        rw [hxb] at hxn HXW ⊢
        obtain ⟨z0, hz0'⟩ : ∃ x, y.alloc (.cells #[.int .i64 at_, .string ⟨#[]⟩, .string ⟨#[]⟩] 83) = x := ⟨_, rfl⟩
        rw [hz0'] at hxn HP' HS' HK' HE' ⊢
        have HXB := Lib.hid hxn
        clear hxn hk1 hz0' hxb c0 c1 c2 lb lg hn hc hc2 k0 k1 k2 hn2 lf f0 HP HS HK HE
        have HP := HP'
        have HS := HS'
        have HK := HK'
        have HE := HE'
        clear HP' HS' HK' HE'
        have HLQ := Lib.hid (Nat.le_refl q.length)
        have HC := Lib.hid (rmust_any [111, 117, 116] z0 HE.out.fine (HE.out.fne hlo) HP.out)
        go_wp2_with fail
        refine HC.out.mono ?_
        rintro ev z1 ⟨rfl, ⟨r1, o1, hp, hr, hll'⟩, hk⟩
        have HST : Hid (r1.length < q.length) := Lib.hid (by
         rw [(must_seen hr HSE.out).1, List.length_tail]
         have := HP.out.endT.pos
         omega)
        have HIM' : Hid (∀ i l' x', Rl (ouS1 at_) r1 o1 i l' x' → Rl outP q none i l' x') := Lib.hid (fun i l' x' hq => HIM.out i l' x' (Rl.must hr hq))
        clear HIM hr
        have HIM := HIM'
        clear HIM'
        have HXB' := Lib.hid (far_rd HP.out hk HXB.out (by decide))
        have HS' := Lib.hid (HS.out.rd HP.out hk)
        have HK' := Lib.hid (HK.out.trans hk)
        have HE' := Lib.hid (HE.out.one hlo hk)
        have HP' := Lib.hid hp
        clear HXB HS HK HE HP hk hp HC
        have HXB := HXB'
        have HS := HS'
        have HK := HK'
        have HE := HE'
        have HP := HP'
        clear HXB' HS' HK' HE' HP'
        have HLR := Lib.hid (Nat.le_trans hll' HLQ.out)
        clear hll' HLQ
        have HLQ := HLR
        clear HLR
        have HLQ1 := HLQ
        clear HLQ
        have HLQ : Hid (r1.length ≤ r1.length) := Lib.hid (Nat.le_refl _)
        have HC := Lib.hid (rname_any z1 HE.out.fine (HE.out.fne hlo) HP.out)
        go_wp2_with fail
        refine HC.out.mono ?_
        rintro ev y2 ⟨a2, q2, x2, rfl, hp, hr, hs, hll', hk⟩
        clear hs
        have HIM' : Hid (∀ i l' x', Rl (ouS2 at_ a2) q2 x2 i l' x' → Rl outP q none i l' x') := Lib.hid (fun i l' x' hq => HIM.out i l' x' (Rl.bind (Q := fun a => ouS2 at_ a) hr hq))
        clear HIM hr
        have HIM := HIM'
        clear HIM'
        have HXB' := Lib.hid (far_rd HP.out hk HXB.out (by decide))
        have HS' := Lib.hid (HS.out.rd HP.out hk)
        have HK' := Lib.hid (HK.out.trans hk)
        have HE' := Lib.hid (HE.out.one hlo hk)
        have HP' := Lib.hid hp
        clear HXB HS HK HE HP hk hp HC
        have HXB := HXB'
        have HS := HS'
        have HK := HK'
        have HE := HE'
        have HP := HP'
        clear HXB' HS' HK' HE' HP'
        have HLR := Lib.hid (Nat.le_trans hll' HLQ.out)
        clear hll' HLQ
        have HLQ := HLR
        clear HLR
        have HOX : Hid (∀ g, (Value.slice A outs.length cv).ownBlock = some g → g ≠ xb) := Lib.hid (fun g hg => Nat.ne_of_lt (HXW.out.2.2.2.2 g hg))
        have e0 : y2.cell? ⟨xb, 1, none⟩ = some (.string ⟨#[]⟩) := HXB.out.cell 1
        have e1 := HXB.out.frozen 1
        have e2 := HXB.out.lt
        have hkb : Keeps [xb] y2 (y2.setCell ⟨xb, 1, none⟩ (.string (bs a2))) := (Keeps.refl _ _).setCell (.inl (by simp)) _
        have HXT := Lib.hid HXB.out.ty
        have HXB' := Lib.hid (set3_1 (u := (.string (bs a2))) HXB.out)
        have HP' := Lib.hid (HP.out.set HXB.out (i := 1) (by decide) (by decide) (.string (bs a2)))
        have HS' := Lib.hid (RlSt.pub HS.out HXT.out HOX.out hkb)
        have HK' := Lib.hid (HK.out.setCell (p := ⟨xb, 1, none⟩) (.inr HXW.out.1) (.string (bs a2)))
        have HE' := Lib.hid (HE0.out.one hlo HK'.out)
        clear hkb HXT
        go_upto_region 20 with (fail)
        obtain ⟨z3, hy⟩ : ∃ x, (y2.setCell ⟨xb, 1, none⟩ (.string (bs a2))) = x := ⟨_, rfl⟩
        rw [hy] at HXB' HP' HS' HK' HE' ⊢
        clear hy e0 e1 e2 HXB HP HS HK HE
        have HXB := HXB'
        have HP := HP'
        have HS := HS'
        have HK := HK'
        have HE := HE'
        clear HXB' HP' HS' HK' HE'
        have HC := Lib.hid (rmust_any [61] z3 HE.out.fine (HE.out.fne hlo) HP.out)
        go_wp2_with fail
        refine HC.out.mono ?_
        rintro ev y4 ⟨rfl, ⟨q4, x4, hp, hr, hll'⟩, hk⟩
        have HIM' : Hid (∀ i l' x', Rl (ouS3 at_ a2) q4 x4 i l' x' → Rl outP q none i l' x') := Lib.hid (fun i l' x' hq => HIM.out i l' x' (Rl.must hr hq))
        clear HIM hr
        have HIM := HIM'
        clear HIM'
        have HXB' := Lib.hid (far_rd HP.out hk HXB.out (by decide))
        have HS' := Lib.hid (HS.out.rd HP.out hk)
        have HK' := Lib.hid (HK.out.trans hk)
        have HE' := Lib.hid (HE.out.one hlo hk)
        have HP' := Lib.hid hp
        clear HXB HS HK HE HP hk hp HC
        have HXB := HXB'
        have HS := HS'
        have HK := HK'
        have HE := HE'
        have HP := HP'
        clear HXB' HS' HK' HE' HP'
        have HLR := Lib.hid (Nat.le_trans hll' HLQ.out)
        clear hll' HLQ
        have HLQ := HLR
        clear HLR
        obtain ⟨bx, hbx⟩ : ∃ bx, x4.isNone = bx := ⟨_, rfl⟩
        have hC := ok_any y4 HE.out.fine HP.out
        rw [hbx] at hC
        have HC := Lib.hid hC
        have HBX := Lib.hid hbx
        clear hC hbx
        go_wp2_with fail
        refine HC.out.mono ?_
        rintro ev z5 ⟨rfl, hk⟩
        have HXB' := Lib.hid (HXB.out.keep hk (by simp))
        have HS' := Lib.hid (HS.out.keep hk)
        have HK' := Lib.hid (HK.out.trans hk.of_nil)
        have HE' := Lib.hid (HE.out.quiet hk)
        have HP' := Lib.hid (HP.out.keep hk)
        clear HXB HS HK HE HP hk HC
        have HXB := HXB'
        have HS := HS'
        have HK := HK'
        have HE := HE'
        have HP := HP'
        clear HXB' HS' HK' HE' HP'
        go_upto_if 77 with (fail)
        go_cut [] (fun wx => ∃ (bn : Bs) (r : List Tk) (x' : Option (Int × Int)), Hid (Blk wx xb 83 #[.int .i64 at_, .string (bs a2), .string (bs bn)]) ∧ Hid (RlSt wx w.heap.size qb rb fb v0 v1 (.slice A outs.length cv) ins jobs outs) ∧ Hid (RdIs wx b r x') ∧ Hid (∀ i l' x'', Rl (ouS4 at_ a2 bn) r x' i l' x'' → Rl outP q none i l' x'') ∧ Hid (Keeps [b] w wx) ∧ Hid (r.length ≤ r1.length))
        case first =>
         cases x4 with
         | some y =>
          have hb : bx = false := HBX.out.symm
          subst hb
          have HD : Hid (∀ i l', Rl outP q none i l' (some y)) := Lib.hid (fun i l' => HIM.out i l' _ rfl)
          go_wp2
          go_meet
          exact ⟨[], q4, some y, HXB, HS, HP, Lib.hid (fun i l' x'' hq => by have := Rl.dead hq; subst this; exact HD.out i l'), HK, HLQ⟩
         | none =>
          have hb : bx = true := HBX.out.symm
          subst hb
          have HC := Lib.hid (rname_any z5 HE.out.fine (HE.out.fne hlo) HP.out)
          go_wp2_with fail
          refine HC.out.mono ?_
          rintro ev y6 ⟨a6, q6, x6, rfl, hp, hr, hs, hll', hk⟩
          clear hs
          have HIM' : Hid (∀ i l' x', Rl (ouS4 at_ a2 a6) q6 x6 i l' x' → Rl outP q none i l' x') := Lib.hid (fun i l' x' hq => HIM.out i l' x' (Rl.bind (Q := fun a => ouS4 at_ a2 a) hr hq))
          clear HIM hr
          have HIM := HIM'
          clear HIM'
          have HXB' := Lib.hid (far_rd HP.out hk HXB.out (by decide))
          have HS' := Lib.hid (HS.out.rd HP.out hk)
          have HK' := Lib.hid (HK.out.trans hk)
          have HE' := Lib.hid (HE.out.one hlo hk)
          have HP' := Lib.hid hp
          clear HXB HS HK HE HP hk hp HC
          have HXB := HXB'
          have HS := HS'
          have HK := HK'
          have HE := HE'
          have HP := HP'
          clear HXB' HS' HK' HE' HP'
          have HLR := Lib.hid (Nat.le_trans hll' HLQ.out)
          clear hll' HLQ
          have HLQ := HLR
          clear HLR
          have e0 : y6.cell? ⟨xb, 2, none⟩ = some (.string ⟨#[]⟩) := HXB.out.cell 2
          have e1 := HXB.out.frozen 2
          have e2 := HXB.out.lt
          have hkb : Keeps [xb] y6 (y6.setCell ⟨xb, 2, none⟩ (.string (bs a6))) := (Keeps.refl _ _).setCell (.inl (by simp)) _
          have HXB' := Lib.hid (set3_2 (u := .string (bs a6)) HXB.out)
          have HP' := Lib.hid (HP.out.set HXB.out (i := 2) (by decide) (by decide) (.string (bs a6)))
          have HS' := Lib.hid (RlSt.pub HS.out HXB.out.ty HOX.out hkb)
          have HK' := Lib.hid (HK.out.setCell (p := ⟨xb, 2, none⟩) (.inr HXW.out.1) (.string (bs a6)))
          clear hkb
          go_wp2
          go_meet
          exact ⟨a6, q6, x6, HXB', HS', HP', HIM, HK', HLQ⟩
        case rest =>
         obtain ⟨bn, r5, x5, HXB', HS', HP', HIM', HK', HLQ'⟩ := hcut
         obtain ⟨z7, rfl⟩ : ∃ y : World, y = wc := ⟨_, rfl⟩
         clear HXB HS HP HIM HK HE HLQ HBX
         have HXB := HXB'
         have HS := HS'
         have HP := HP'
         have HIM := HIM'
         have HK := HK'
         have HLQ := HLQ'
         have HE := Lib.hid (HE0.out.one hlo HK.out)
         clear HXB' HS' HP' HIM' HK' HLQ'
         have HC := Lib.hid (rmust_any [59] z7 HE.out.fine (HE.out.fne hlo) HP.out)
         go_wp2_with fail
         refine HC.out.mono ?_
         rintro ev y8 ⟨rfl, ⟨q8, x8, hp, hr, hll'⟩, hk⟩
         have HIM' : Hid (∀ i l' x', Rl (fun r => .ok ((⟨at_, a2, bn⟩ : Pb), r)) q8 x8 i l' x' → Rl outP q none i l' x') := Lib.hid (fun i l' x' hq => HIM.out i l' x' (Rl.must hr hq))
         clear HIM hr
         have HIM := HIM'
         clear HIM'
         have HXB' := Lib.hid (far_rd HP.out hk HXB.out (by decide))
         have HS' := Lib.hid (HS.out.rd HP.out hk)
         have HK' := Lib.hid (HK.out.trans hk)
         have HE' := Lib.hid (HE.out.one hlo hk)
         have HP' := Lib.hid hp
         clear HXB HS HK HE HP hk hp HC
         have HXB := HXB'
         have HS := HS'
         have HK := HK'
         have HE := HE'
         have HP := HP'
         clear HXB' HS' HK' HE' HP'
         have HLR := Lib.hid (Nat.le_trans hll' HLQ.out)
         clear hll' HLQ
         have HLQ := HLR
         clear HLR
         have HFIN : Hid (Rl outP q none (⟨at_, a2, bn⟩ : Pb) q8 x8) := Lib.hid (HIM.out _ _ _ (Rl.stay (fun _ => rfl)))
         have HR7 := Lib.hid (HRR.out _ _ _ HFIN.out)
         obtain ⟨us, hul, how, hel⟩ := HS.out.i2
         have HOW := Lib.hid how
         have HUL := Lib.hid hul
         have HEL := Lib.hid hel
         clear how hul hel
         have fc : y8.cell? ⟨fb, 2, none⟩ = some (.slice A outs.length cv) := HS.out.fbk.cell 2
         have ff := HS.out.fbk.frozen 2
         have lf := HS.out.fbk.lt
         have c0' : y8.cell? ⟨xb, 0, none⟩ = some (.int .i64 at_) := HXB.out.cell 0
         have c1' : y8.cell? ⟨xb, 1, none⟩ = some (.string (bs a2)) := HXB.out.cell 1
         have c2' : y8.cell? ⟨xb, 2, none⟩ = some (.string (bs bn)) := HXB.out.cell 2
         have lx := HXB.out.lt
         have HWZ := Lib.hid (show w.heap.size ≤ y8.heap.size + 1 from Nat.le_succ_of_le HK.out.size)
         go_wp2_with (at_builtin; refine wpList_append_lies _ rfl _ _ 24 rfl _ 83 i2 _ 3 40 Tryz.underlying24 hp hx0 hx1 hx2 rfl (by decide) _ outs.length us.flatten rfl (HOW.out.alloc _) ⟨y8.heap.size, 0, none⟩ 1 1 [.int .i64 at_, .string (bs a2), .string (bs bn)] rfl rfl (World.news_of_block (heap_alloc_new _ _)) (by simp [Value.oneCell']) (by decide) hbd.out.1 hbd.out.2 (by simp; exact HWZ.out) _ rfl ?_)
         intro gw cap2 w8 hown8 hgrow8 hat8 hlt8
         obtain ⟨fc8, ff8⟩ := fld_grown hgrow8 (fld_alloc ⟨fc, ff⟩ _) (fun e => (own_ty HOW.out fb e).ne HS.out.fbk.ty (by decide) rfl)
         have gl8 : fb < w8.heap.size := World.block_lt_of_cell? w8 ⟨fb, 2, none⟩ fc8
         have hr8 := own_ty HOW.out
         have HS8 := Lib.hid (RlSt.app2 (x := ⟨at_, a2, bn⟩) HS.out HUL.out HOW.out HEL.out rfl hgrow8 hown8)
         have HP8 := Lib.hid (rd7 (k := 2) (u := .slice (some ⟨gw, 0, none⟩) (outs.length + 1) cap2) HS.out HP.out hgrow8 hr8 (by decide) (by decide))
         have HK8 := Lib.hid (RlSt.keeps7 (k := 2) (u := .slice (some ⟨gw, 0, none⟩) (outs.length + 1) cap2) HS.out HK.out hgrow8 (fun z hz => (HOW.out.lt z hz).1))
         clear hr8 hown8 hgrow8 hat8 hlt8 fc ff c0' c1' c2'
         go_wp2
         go_roundw
         case rel => exact ⟨_, outs ++ [⟨at_, a2, bn⟩], q8, n - 1, x8, HR7, Lib.hid (by have := HLQ.out; have := HST.out; have := HQN.out; omega), Lib.hid (by have := HLQ.out; have := HST.out; have := HQL.out; omega), Lib.hid (HL1.out _), HS8, HP8, HK8⟩
         case measure => have := HLQ.out; have := HST.out; rw [HP8.out.left, HM.out]; omega
    case rest =>
     clear HS HP HK HIM
     obtain ⟨v2, outs, q3, x3, HIM, HS, HP, HK⟩ := hcut
     obtain ⟨y3, rfl⟩ : ∃ y : World, y = wc := ⟨_, rfl⟩
     have HFL := Lib.hid (HIM.out ⟨ins, jobs, outs⟩ q3 x3 (Rl.stay (fun _ => rfl)))
     have hen := parse_end HFL.out
     rw [HLX.out] at hen
     obtain ⟨kd, hkd⟩ : ∃ kd, (hdT q3).kind = kd := ⟨_, rfl⟩
     rw [hkd] at hen
     have HEN := Lib.hid hen
     clear HIM HFL hen
     have HE := Lib.hid (HE0.out.one hlo HK.out)
     obtain ⟨g, o, c, c0, c1, c2, -, lb, lg, -, hn, hc, hc2, k0, k1, k2, -⟩ := HP.out.open'
     rw [hkd] at k0
     have hn2 : (0 : Int) < (q3.length : Int) := by omega
     clear hkd
     go_upto_if 96 with (fail)
     go_cut [] (fun wx => Hid (RdIs wx b q3 (if kd ≠ 5 then badX x3 3 q3 else x3)) ∧ Hid (RlSt wx w.heap.size qb rb fb v0 v1 v2 ins jobs outs) ∧ Hid (Keeps [b] w wx))
     case first =>
      by_cases hk5 : kd = 5
      ·have e5 : (kd != 5) = false := by rw [hk5]; rfl
       have HZ : Hid (RdIs y3 b q3 (if kd ≠ 5 then badX x3 3 q3 else x3)) := Lib.hid (by rw [if_neg (fun h => h hk5)]; exact HP.out)
       rw [e5]
       clear hk5 c0 c1 c2 lb lg hn hc hc2 k0 k1 k2 hn2
       go_wp2
       go_meet
       exact ⟨HZ, HS, HK⟩
      ·have e5 : (kd != 5) = true := by rw [bne_iff_ne]; exact hk5
       have HF := Lib.hid (rfails_any 3 (by decide) y3 HE.out.fine HP.out)
       have HI5 : Hid ((if kd ≠ 5 then badX x3 3 q3 else x3) = badX x3 3 q3) := Lib.hid (if_pos hk5)
       rw [e5]
       clear hk5 c0 c1 c2 lb lg hn hc hc2 k0 k1 k2 hn2
       go_wp2_with fail
       refine HF.out.mono ?_
       rintro ev w4' ⟨rfl, hp, hk⟩
       have HZ : Hid (RdIs w4' b q3 (if kd ≠ 5 then badX x3 3 q3 else x3)) := Lib.hid (by rw [HI5.out]; exact hp)
       have HS2 := Lib.hid (HS.out.rd HP.out hk)
       have HK2 := Lib.hid (HK.out.trans hk)
       clear hp hk
       go_wp2
       go_meet
       exact ⟨HZ, HS2, HK2⟩
     case rest =>
      obtain ⟨HP', HS', HK'⟩ := hcut
      obtain ⟨y4, rfl⟩ : ∃ y : World, y = wc := ⟨_, rfl⟩
      clear HP HS HK HE c0 c1 c2 lb lg hn hc hc2 k0 k1 k2 hn2
      obtain ⟨x4, hx4⟩ : ∃ x4, (if kd ≠ 5 then badX x3 3 q3 else x3) = x4 := ⟨_, rfl⟩
      rw [hx4] at HP' HEN
      clear hx4
      have HE := Lib.hid (HE0.out.one hlo HK'.out)
      have HO := Lib.hid (ok_any y4 HE.out.fine HP'.out)
      cases x4 with
      | some z =>
       have HX : Hid (R = .error z) := Lib.hid HEN.out
       go_wp2_with fail
       refine HO.out.mono ?_
       rintro ev y5 ⟨hev, hk⟩
       have hev' : ev = .returned (.bool false) := hev
       subst hev'
       have HP := Lib.hid (HP'.out.keep hk)
       have HS := Lib.hid (HS'.out.keep hk)
       have HK := Lib.hid (((Keeps.refl [] w).trans' HK'.out (fun x hx hl => by rw [List.mem_singleton.1 hx] at hl; have := HBW.out; omega)).trans hk)
       clear hev hk HP' HS' HK' HE HO HEN
       obtain ⟨g, o, c, c0, c1, c2, -, lb, lg, -⟩ := HP.out.open'
       obtain ⟨z1, z2⟩ := z
       have d1 : y5.cell? ⟨b, 1, none⟩ = some (.int .i64 z1) := c1
       have d2 : y5.cell? ⟨b, 2, none⟩ = some (.int .i64 z2) := c2
       have hne1 := HWR.out.2.2.1
       have hb1 : ¬ b = rb ∧ ¬ rb = b ∧ ¬ b = qb ∧ ¬ qb = b := by
        have a1 := HS.out.rbk.ty.ne HP.out.ty (by decide)
        have a2 := HS.out.qbk.ty.ne HP.out.ty (by decide)
        omega
       obtain ⟨hb1, hb2, hb3, hb4⟩ := hb1
       have r0 : y5.cell? ⟨rb, 0, none⟩ = some (.slice none 0 0) := HS.out.rbk.cell 0
       have r1 : y5.cell? ⟨rb, 1, none⟩ = some (.slice none 0 0) := HS.out.rbk.cell 1
       have r2 : y5.cell? ⟨rb, 2, none⟩ = some (.slice none 0 0) := HS.out.rbk.cell 2
       have rf0 := HS.out.rbk.frozen 0
       have rf1 := HS.out.rbk.frozen 1
       have rf2 := HS.out.rbk.frozen 2
       have lr := HS.out.rbk.lt
       have p0 : y5.cell? ⟨qb, 0, none⟩ = some (.int .i64 0) := HS.out.qbk.cell 0
       have p1 : y5.cell? ⟨qb, 1, none⟩ = some (.int .i64 0) := HS.out.qbk.cell 1
       have pf0 := HS.out.qbk.frozen 0
       have pf1 := HS.out.qbk.frozen 1
       have lp := HS.out.qbk.lt
       clear c0 c1 c2 lg
       go_upto_region 28 with (fail)
       go_region_law (fail)
       all_goals
        go_wp2
        have hr7 := blk_drew (((set3_2 (u := .slice none 0 0) (set3_1 (u := .slice none 0 0) (set3_0 (u := .slice none 0 0) HS.out.rbk))).far (p := ⟨qb, 0, none⟩) hne1 (.int .i64 z1)).far (p := ⟨qb, 1, none⟩) hne1 (.int .i64 z2))
        have hq7 := blk_drew (((((HS.out.qbk.far (p := ⟨rb, 0, none⟩) (Ne.symm hne1) (.slice none 0 0)).far (p := ⟨rb, 1, none⟩) (Ne.symm hne1) (.slice none 0 0)).far (p := ⟨rb, 2, none⟩) (Ne.symm hne1) (.slice none 0 0)).set 0 (.int .i64 z1)).set 1 (.int .i64 z2))
        refine bodyPost_ret (v := .tuple #[.agg #[.slice none 0 0, .slice none 0 0, .slice none 0 0], .agg #[.int .i64 z1, .int .i64 z2]]) (par_res _ rb qb _ (.slice none 0 0) (.slice none 0 0) (.slice none 0 0) (z1) (z2) rfl rfl (hr7.cell 0) (hr7.cell 1) (hr7.cell 2) (hq7.cell 0) (hq7.cell 1)) rfl ?_
        exact ⟨by rw [HX.out]; rfl, (kset (kset (kset (kset (kset HK.out HWR.out.1 _) HWR.out.1 _) HWR.out.1 _) HWR.out.2.1 _) HWR.out.2.1 _).drew⟩
      | none =>
       have HX : Hid (R = .ok ⟨ins, jobs, outs⟩) := Lib.hid HEN.out
       go_wp2_with fail
       refine HO.out.mono ?_
       rintro ev y5 ⟨hev, hk⟩
       have hev' : ev = .returned (.bool true) := hev
       subst hev'
       have HS := Lib.hid (HS'.out.keep hk)
       have HK := Lib.hid (((Keeps.refl [] w).trans' HK'.out (fun x hx hl => by rw [List.mem_singleton.1 hx] at hl; have := HBW.out; omega)).trans hk)
       have HE5 := Lib.hid (HE.out.quiet hk)
       clear hev hk HP' HS' HK' HE HO HEN
       obtain ⟨us0, _, how0, _⟩ := HS.out.i0
       obtain ⟨us1, _, how1, _⟩ := HS.out.i1
       obtain ⟨us2, _, how2, _⟩ := HS.out.i2
       obtain ⟨A0, n0, rfl, -⟩ := own_form how0
       obtain ⟨A1, n1, rfl, -⟩ := own_form how1
       obtain ⟨A2, n2, rfl, -⟩ := own_form how2
       clear how0 how1 how2
       obtain ⟨q0, q1⟩ := HE5.out.fine
       have lq := World.block_lt_of_cell? _ _ q0
       have hgl := HE0.out.flt
       have hne1 := HWR.out.2.2.1
       have hbs : ¬ fb = rb ∧ ¬ rb = fb ∧ ¬ fb = qb ∧ ¬ qb = fb ∧ ¬ rb = 0 ∧ ¬ qb = 0 := by
        have a1 := HS.out.ne
        have a2 := HS.out.fbk.ty.ne HS.out.qbk.ty (by decide)
        have a3 := HWR.out
        omega
       obtain ⟨hb1, hb2, hb3, hb4, hb5, hb6⟩ := hbs
       have f0 : y5.cell? ⟨fb, 0, none⟩ = some (.slice A0 ins.length n0) := HS.out.fbk.cell 0
       have f1 : y5.cell? ⟨fb, 1, none⟩ = some (.slice A1 jobs.length n1) := HS.out.fbk.cell 1
       have f2 : y5.cell? ⟨fb, 2, none⟩ = some (.slice A2 outs.length n2) := HS.out.fbk.cell 2
       have lf := HS.out.fbk.lt
       have r0 : y5.cell? ⟨rb, 0, none⟩ = some (.slice none 0 0) := HS.out.rbk.cell 0
       have r1 : y5.cell? ⟨rb, 1, none⟩ = some (.slice none 0 0) := HS.out.rbk.cell 1
       have r2 : y5.cell? ⟨rb, 2, none⟩ = some (.slice none 0 0) := HS.out.rbk.cell 2
       have rf0 := HS.out.rbk.frozen 0
       have rf1 := HS.out.rbk.frozen 1
       have rf2 := HS.out.rbk.frozen 2
       have lr := HS.out.rbk.lt
       have p0 : y5.cell? ⟨qb, 0, none⟩ = some (.int .i64 0) := HS.out.qbk.cell 0
       have p1 : y5.cell? ⟨qb, 1, none⟩ = some (.int .i64 0) := HS.out.qbk.cell 1
       have pf0 := HS.out.qbk.frozen 0
       have pf1 := HS.out.qbk.frozen 1
       have lp := HS.out.qbk.lt
       go_upto_region 29 with (fail)
       go_region_law (fail)
       all_goals
        go_wp2
        have hr7 := blk_drew (((set3_2 (u := .slice A2 outs.length n2) (set3_1 (u := .slice A1 jobs.length n1) (set3_0 (u := .slice A0 ins.length n0) HS.out.rbk))).far (p := ⟨qb, 0, none⟩) hne1 (.int .i64 0)).far (p := ⟨qb, 1, none⟩) hne1 (.int .i64 (-1)))
        have hq7 := blk_drew (((((HS.out.qbk.far (p := ⟨rb, 0, none⟩) (Ne.symm hne1) (.slice A0 ins.length n0)).far (p := ⟨rb, 1, none⟩) (Ne.symm hne1) (.slice A1 jobs.length n1)).far (p := ⟨rb, 2, none⟩) (Ne.symm hne1) (.slice A2 outs.length n2)).set 0 (.int .i64 0)).set 1 (.int .i64 (-1)))
        refine bodyPost_ret (v := .tuple #[.agg #[.slice A0 ins.length n0, .slice A1 jobs.length n1, .slice A2 outs.length n2], .agg #[.int .i64 0, .int .i64 (-1)]]) (par_res _ rb qb _ (.slice A0 ins.length n0) (.slice A1 jobs.length n1) (.slice A2 outs.length n2) (0) ((-1)) rfl rfl (hr7.cell 0) (hr7.cell 1) (hr7.cell 2) (hq7.cell 0) (hq7.cell 1)) rfl ?_
        have hkk : Keeps [rb, qb] y5 (((((y5.setCell ⟨rb, 0, none⟩ (.slice A0 ins.length n0)).setCell ⟨rb, 1, none⟩ (.slice A1 jobs.length n1)).setCell ⟨rb, 2, none⟩ (.slice A2 outs.length n2)).setCell ⟨qb, 0, none⟩ (.int .i64 0)).setCell ⟨qb, 1, none⟩ (.int .i64 (-1))).drew := ((((((Keeps.refl [rb, qb] y5)).setCell (.inl (by simp)) _).setCell (.inl (by simp)) _).setCell (.inl (by simp)) _).setCell (.inl (by simp)) _).setCell (.inl (by simp)) _ |>.drew
        have hfr : FarOf [9, 61, 63, 45, 83] [rb, qb] y5 _ := ⟨hkk, fun z hz => by
         rcases List.mem_cons.1 hz with rfl | hz
         ·exact ⟨26, HS.out.rbk.ty, by decide⟩
         ·rw [List.mem_singleton.1 hz]; exact ⟨29, HS.out.qbk.ty, by decide⟩⟩
        exact ⟨by rw [HX.out]; exact ⟨_, _, _, rfl, HS.out.i0.far hfr (by decide) (by decide), HS.out.i1.far hfr (by decide) (by decide), HS.out.i2.far hfr (by decide)⟩, (kset (kset (kset (kset (kset HK.out HWR.out.1 _) HWR.out.1 _) HWR.out.1 _) HWR.out.2.1 _) HWR.out.2.1 _).drew⟩
end Go.Proofs.YtnjjajanfedjiaaGreatDoor
