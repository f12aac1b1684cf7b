/- A flow that is being read by the reference's reader, in memory. -/
import Derived.Test.YtbhejdljekmohaaGreatDoorFlrM24
import Derived.Test.YtbhejdljekmohaaGreatDoorFlrM25
import Derived.Test.YtbhejdljekmohaaGreatDoorFlrM26
namespace Go.Proofs.YtbhejdljekmohaaGreatDoor
open Go.RowKit Go.BigFrame
attribute [local go_sem] bs_size bs_extract bs_append bs_toList
/-- The types of what a flow is made of. -/
def flTysR : List TypeId := [9, 98, 62, 50, 68, 31, 34]
/-- A flow that is being read. -/
structure RlSt (W : World) (base qb rb fb : Nat) (v0 v1 v2 : Value) (ins : List In) (jobs : List Jb) (outs : List Pb) : Prop where
  rbk : Blk W rb 31 #[.slice none 0 0, .slice none 0 0, .slice none 0 0]
  qbk : Blk W qb 34 #[.int .i64 0, .int .i64 0]
  fbk : Blk W fb 31 #[v0, v1, v2]
  ne : rb ≠ fb
  lo : base ≤ fb
  i0 : InsIs W base v0 ins
  i1 : JobsIs W base v1 jobs
  i2 : OutsIs W base v2 outs
section
variable {W W' W7 : World} {base qb rb fb b k : Nat} {v0 v1 v2 u : Value} {ins : List In} {jobs : List Jb} {outs : List Pb} {L : List Nat} {l : List Tk} {x : Option (Int × Int)} {o : Obj} {cs : List Value} {us : List (List Value)}
theorem RlSt.far (h : RlSt W base qb rb fb v0 v1 v2 ins jobs outs) (hf : FarOf flTysR L W W') : RlSt W' base qb rb fb v0 v1 v2 ins jobs outs :=
  ⟨hf.blk h.rbk (by decide), hf.blk h.qbk (by decide), hf.blk h.fbk (by decide), h.ne, h.lo, h.i0.far hf (by decide) (by decide), h.i1.far hf (by decide) (by decide), h.i2.far hf (by decide)⟩
theorem RlSt.keep (h : RlSt W base qb rb fb v0 v1 v2 ins jobs outs) (hk : Keeps [] W W') : RlSt W' base qb rb fb v0 v1 v2 ins jobs outs :=
  h.far ⟨hk, fun x hx => by cases hx⟩
theorem RlSt.rd (h : RlSt W base qb rb fb v0 v1 v2 ins jobs outs) (hp : RdIs W b l x) (hk : Keeps [b] W W') : RlSt W' base qb rb fb v0 v1 v2 ins jobs outs :=
  h.far ⟨hk, fun x hx => ⟨58, by rw [List.mem_singleton.1 hx]; exact hp.ty, by decide⟩⟩
/-- An append, and a store into the flow's box, write these blocks alone. -/
theorem grown_setR {e : TypeId} {S : List TypeId} (h : RlSt W base qb rb fb v0 v1 v2 ins jobs outs) {row : Option Nat} (hg : (W.alloc o).grownBy W7 row) (hr : ∀ x, row = some x → OfTy W x e) (he : e ∉ S) (hf : 31 ∉ S) :
    FarOf S (row.toList ++ [fb]) W (W7.setCell ⟨fb, k, none⟩ u) := by
  refine ⟨(Keeps.grown ((Keeps.refl _ W).alloc o) hg (fun g hg => .inl (by rw [hg]; simp))).setCell (.inl (by simp)) _, fun x hx => ?_⟩
  rcases List.mem_append.1 hx with hx | hx
  · cases row with
    | none => cases hx
    | some y => simp at hx; exact ⟨e, hr x (by rw [hx]), he⟩
  · rw [List.mem_singleton.1 hx]
    exact ⟨_, h.fbk.ty, hf⟩
theorem RlSt.fbk7 {e : TypeId} (h : RlSt W base qb rb fb v0 v1 v2 ins jobs outs) {row : Option Nat} (hg : (W.alloc o).grownBy W7 row) (hr : ∀ x, row = some x → OfTy W x e) (he : e ≠ 31) : Blk W7 fb 31 #[v0, v1, v2] :=
  (hg.block fb (h.fbk.alloc o).lt (fun e' => (hr fb e'.symm).ne h.fbk.ty he rfl)).trans (h.fbk.alloc o)
theorem RlSt.keeps7 {w : World} (h : RlSt W w.heap.size qb rb fb v0 v1 v2 ins jobs outs) (hk : Keeps [b] w W) {row : Option Nat} (hg : (W.alloc o).grownBy W7 row) (hr : ∀ x, row = some x → w.heap.size ≤ x) : Keeps [b] w (W7.setCell ⟨fb, k, none⟩ u) :=
  ((hk.alloc o).grown hg (fun x hx => .inr (hr x hx))).setCell (.inr h.lo) _
theorem own_set7R {e : TypeId} {size n : Nat} {xs : List Value} (h : RlSt W base qb rb fb v0 v1 v2 ins jobs outs) {row : Option Nat} (hg : (W.alloc o).grownBy W7 row) (hr : ∀ x, row = some x → OfTy W x e) (he : e ≠ 31) (hown : W7.ownsRow base e size u n xs) {u' : Value} : (W7.setCell ⟨fb, k, none⟩ u').ownsRow base e size u n xs :=
  own_far' (L := [fb]) hown ((Keeps.refl _ _).setCell (.inl (by simp)) _) (fun x hx => by rw [List.mem_singleton.1 hx]; exact ⟨_, (h.fbk7 hg hr he).ty, he⟩)
theorem rd7 {e : TypeId} (h : RlSt W base qb rb fb v0 v1 v2 ins jobs outs) (hp : RdIs W b l x) {row : Option Nat} (hg : (W.alloc o).grownBy W7 row) (hr : ∀ x, row = some x → OfTy W x e) (he1 : e ≠ 58) (he2 : e ≠ 66) : RdIs (W7.setCell ⟨fb, k, none⟩ u) b l x := by
  have hf := grown_setR (S := [58, 66]) (k := k) (u := u) h hg hr (by simp [he1, he2]) (by decide)
  exact hp.far hf.1 (fun x hx => by obtain ⟨t, h1, h2⟩ := hf.2 x hx; exact ⟨t, h1, fun e => h2 (by simp [e]), fun e => h2 (by simp [e])⟩)
/-- A part of a flow that is being read is written, apart from all rows. -/
theorem RlSt.pub {m c xb : Nat} {A : Option Addr} (h : RlSt W base qb rb fb v0 v1 (.slice A m c) ins jobs outs) (ht : OfTy W xb 68) (hn : ∀ g, (Value.slice A m c).ownBlock = some g → g ≠ xb) (hk : Keeps [xb] W W') : RlSt W' base qb rb fb v0 v1 (.slice A m c) ins jobs outs := by
  have hf : FarOf [9, 98, 62, 50, 31, 34] [xb] W W' := ⟨hk, fun x hx => ⟨68, by rw [List.mem_singleton.1 hx]; exact ht, by decide⟩⟩
  obtain ⟨us, hu1, hu2, hu3⟩ := h.i2
  exact ⟨hf.blk h.rbk (by decide), hf.blk h.qbk (by decide), hf.blk h.fbk (by decide), h.ne, h.lo, h.i0.far hf (by decide) (by decide), h.i1.far hf (by decide) (by decide), us, hu1, own_keep hu2 hk (fun g hg hm => hn g hg (List.mem_singleton.1 hm)), hu3⟩
theorem RlSt.app0 {x : In} (h : RlSt W base qb rb fb v0 v1 v2 ins jobs outs) (hul : us.length = ins.length) (ho : W.ownsRow base 62 3 v0 ins.length us.flatten) (hel : ∀ j (h : j < ins.length) (h' : j < us.length), InEl W base us[j] ins[j]) (hx : InEl W base cs x) (hg : (W.alloc o).grownBy W7 v0.ownBlock) (hown : W7.ownsRow base 62 3 u (ins.length + 1) (us.flatten ++ cs)) : RlSt (W7.setCell ⟨fb, 0, none⟩ u) base qb rb fb u v1 v2 (ins ++ [x]) jobs outs := by
  have hr := own_ty ho
  have hf := grown_setR (S := [9, 98, 50, 68, 34]) (k := 0) (u := u) h hg hr (by decide) (by decide)
  have hrb : Blk (W7.setCell ⟨fb, 0, none⟩ u) rb 31 #[.slice none 0 0, .slice none 0 0, .slice none 0 0] := h.rbk.keep hf.1 (fun hm => by
    rcases List.mem_append.1 hm with hm | hm
    · exact (hr rb (by simpa using hm)).ne h.rbk.ty (by decide) rfl
    · exact h.ne (List.mem_singleton.1 hm))
  exact ⟨hrb, hf.blk h.qbk (by decide), set3_0 (h.fbk7 hg hr (by decide)), h.ne, h.lo, LstIs.snoc hul (fun j h1 h2 => InEl.far hf (by decide) _ _ (hel j h1 h2)) (InEl.far hf (by decide) _ _ hx) (own_set7R h hg hr (by decide) hown), h.i1.far hf (by decide) (by decide), h.i2.far hf (by decide)⟩
theorem RlSt.app1 {x : Jb} (h : RlSt W base qb rb fb v0 v1 v2 ins jobs outs) (hul : us.length = jobs.length) (ho : W.ownsRow base 50 15 v1 jobs.length us.flatten) (hel : ∀ j (h : j < jobs.length) (h' : j < us.length), JbEl W base us[j] jobs[j]) (hx : JbEl W base cs x) (hg : (W.alloc o).grownBy W7 v1.ownBlock) (hown : W7.ownsRow base 50 15 u (jobs.length + 1) (us.flatten ++ cs)) : RlSt (W7.setCell ⟨fb, 1, none⟩ u) base qb rb fb v0 u v2 ins (jobs ++ [x]) outs := by
  have hr := own_ty ho
  have hf := grown_setR (S := [9, 98, 62, 68, 34]) (k := 1) (u := u) h hg hr (by decide) (by decide)
  have hrb : Blk (W7.setCell ⟨fb, 1, none⟩ u) rb 31 #[.slice none 0 0, .slice none 0 0, .slice none 0 0] := h.rbk.keep hf.1 (fun hm => by
    rcases List.mem_append.1 hm with hm | hm
    · exact (hr rb (by simpa using hm)).ne h.rbk.ty (by decide) rfl
    · exact h.ne (List.mem_singleton.1 hm))
  exact ⟨hrb, hf.blk h.qbk (by decide), set3_1 (h.fbk7 hg hr (by decide)), h.ne, h.lo, h.i0.far hf (by decide) (by decide), LstIs.snoc hul (fun j h1 h2 => JbEl.far hf (by decide) _ _ (hel j h1 h2)) (JbEl.far hf (by decide) _ _ hx) (own_set7R h hg hr (by decide) hown), h.i2.far hf (by decide)⟩
theorem RlSt.app2 {x : Pb} (h : RlSt W base qb rb fb v0 v1 v2 ins jobs outs) (hul : us.length = outs.length) (ho : W.ownsRow base 68 3 v2 outs.length us.flatten) (hel : ∀ j (h : j < outs.length) (h' : j < us.length), PbEl W base us[j] outs[j]) (hx : PbEl W base cs x) (hg : (W.alloc o).grownBy W7 v2.ownBlock) (hown : W7.ownsRow base 68 3 u (outs.length + 1) (us.flatten ++ cs)) : RlSt (W7.setCell ⟨fb, 2, none⟩ u) base qb rb fb v0 v1 u ins jobs (outs ++ [x]) := by
  have hr := own_ty ho
  have hf := grown_setR (S := [9, 98, 62, 50, 34]) (k := 2) (u := u) h hg hr (by decide) (by decide)
  have hrb : Blk (W7.setCell ⟨fb, 2, none⟩ u) rb 31 #[.slice none 0 0, .slice none 0 0, .slice none 0 0] := h.rbk.keep hf.1 (fun hm => by
    rcases List.mem_append.1 hm with hm | hm
    · exact (hr rb (by simpa using hm)).ne h.rbk.ty (by decide) rfl
    · exact h.ne (List.mem_singleton.1 hm))
  exact ⟨hrb, hf.blk h.qbk (by decide), set3_2 (h.fbk7 hg hr (by decide)), h.ne, h.lo, h.i0.far hf (by decide) (by decide), h.i1.far hf (by decide) (by decide), LstIs.snoc hul (fun j h1 h2 => hel j h1 h2) hx (own_set7R h hg hr (by decide) hown)⟩
end
/-- A new reader, behind a row of tokens. -/
theorem rd_new {y : World} {base : Nat} {v : Value} {l : List Tk} (h : y.ownsRow base 66 3 v l.length (tsCells l)) (he : EndT l) (hw : AllR l) : RdIs (y.alloc (.cells #[v, .int .i64 0, .int .i64 (-1)] 58)) y.heap.size l none := by
  rcases h.2 with ⟨_, h0⟩ | ⟨g, cap, cur, rfl, hb, hh, h1, h2, h3, h4⟩
  · have := he.pos; omega
  have hg : g < y.heap.size := (Array.getElem?_eq_some_iff.1 hh).1
  have hk := (Keeps.refl [] y).alloc (.cells #[.slice (some ⟨g, 0, none⟩) l.length cap, .int .i64 0, .int .i64 (-1)] 58)
  obtain ⟨A, c, e, hx⟩ := own_form h
  injection e with e1 e2 e3
  subst e1 e3
  obtain ⟨g', e4, _, hx⟩ := hx he.pos
  injection e4 with e4
  injection e4 with e4
  subst e4
  exact ⟨g, 0, cap, Blk.new _ _ _, ⟨OfTy.keep ⟨_, _, hh⟩ hk (by simp), hg⟩, h1, h2, he, hw, (fun z hz => by cases hz), fun j u hu => by rw [Nat.zero_add]; exact hk.cell_of (hx j u hu) (by simp)⟩
theorem fNeq (a b : Int) (W : World) : (binOp .neq 34 (.agg #[.int .i64 a, .int .i64 b]) (.agg #[.int .i64 0, .int .i64 (-1)])).run Tryz.prog W = .ok (.bool (!(decide (a = 0) && decide (b = -1)))) W := by
  simp [go_sem]
  by_cases h1 : a = 0 <;> by_cases h2 : b = -1 <;> simp [h1, h2, go_sem]
theorem lexGo_err : ∀ (f : Nat) (s : Bs) (i : Nat) (acc : List Tk) (x : Int × Int), lexGo f s i acc = .error x → 0 < x.1 := by
  intro f
  induction f with
  | zero => intro s i acc x h; cases h
  | succ f ih =>
    intro s i acc x h
    cases s with
    | nil => cases h
    | cons c t =>
      rw [lexGo_cons] at h
      split at h
      · exact ih _ _ _ _ h
      split at h
      · injection h with h; rw [← h]; exact (by decide : (0 : Int) < 3)
      split at h
      · injection h with h; rw [← h]; exact (by decide : (0 : Int) < 4)
      exact ih _ _ _ _ h
/-- One more is read. -/
theorem many_stage {α β : Type} {w : Bs} {one : List Tk → Except (Int × Int) (α × List Tk)} {n : Nat} {q : List Tk} {acc : List α} (F : List α × List Tk → Except (Int × Int) (β × List Tk)) (h : seeP w q = true) (hn : 0 < n) (hl : acc.length ≠ 16) : (manyP w one n q acc >>= F) = (one q >>= fun p => manyP w one (n - 1) p.2 (acc ++ [p.1]) >>= F) := by
  obtain ⟨n, rfl⟩ : ∃ m, n = m + 1 := ⟨n - 1, by omega⟩
  conv => lhs; arg 1; unfold manyP
  rw [h, if_pos rfl, if_neg hl]
  rcases one q with x | ⟨a, r⟩ <;> rfl
/-- What Parse hands back. -/
def ParR (R : Except (Int × Int) Fl) (base : Nat) (e : Ending) (w' : World) : Prop := match R with
  | .ok f => ∃ v0 v1 v2, e = .returned (.tuple #[.agg #[v0, v1, v2], .agg #[.int .i64 0, .int .i64 (-1)]]) ∧ InsIs w' base v0 f.ins ∧ JobsIs w' base v1 f.jobs ∧ OutsIs w' base v2 f.outs
  | .error x => e = .returned (.tuple #[.agg #[.slice none 0 0, .slice none 0 0, .slice none 0 0], .agg #[.int .i64 x.1, .int .i64 x.2]])
theorem par_res (tmps : Array Value) (rb qb : Nat) (W : World) (a b c : Value) (d e : Int) (h2 : tmps[2]? = some (.pointer (some ⟨rb, 0, none⟩))) (h3 : tmps[3]? = some (.pointer (some ⟨qb, 0, none⟩)))
    (z0 : W.cell? ⟨rb, 0, none⟩ = some a) (z1 : W.cell? ⟨rb, 1, none⟩ = some b) (z2 : W.cell? ⟨rb, 2, none⟩ = some c) (z3 : W.cell? ⟨qb, 0, none⟩ = some (.int .i64 d)) (z4 : W.cell? ⟨qb, 1, none⟩ = some (.int .i64 e)) :
    (results Tryz.f6 tmps).run Tryz.prog W = .ok (.tuple #[.agg #[a, b, c], .agg #[.int .i64 d, .int .i64 e]]) W := by
  simp [results, Tryz.results6, go_sem, h2, h3, z0, z1, z2, z3, z4]
end Go.Proofs.YtbhejdljekmohaaGreatDoor
